/-
  The abstract machine: its operations, one by one, against the model's: copy, make, strings, equality, slices with their elements.
-/
import Derived.Test.YtgebgjhjegadpaaAbL
namespace Go.Proofs.Ytgebgjhjegadpaa
open Go

section
variable {P : Program} {cx : Cx} {Wr : Nat → Prop} {β : Bm} {H : Nat → Option Blk} {D : Nat → Prop} {w : World}

theorem needs_run {r : List Bool} {m : RM (Tr Out)} {tr : Tr Out} {rd : List Nat} {out : Out} (h : (RM.needs r m).run H = some (tr, rd)) (hg : tr.get = some out) : ∃ tr' rd', m.run H = some (tr', rd') ∧ tr'.get = some out ∧ ∀ b ∈ r, b = true := by
  obtain ⟨t, l1, l2, h1, h2, rfl⟩ := RM.run_bind h
  obtain rfl := pure_run h2
  obtain ⟨h3, h4⟩ := Tr.needs_get hg
  exact ⟨t, l1, h1, h4, h3⟩

theorem withI_run {k : IntKind} {f : List Nat → RM (Tr Out)} {c : List Bool × XC} {tr : Tr Out} {rd : List Nat} {out : Out} (h : (withI k f c).run H = some (tr, rd)) (hg : tr.get = some out) :
    ∃ ys tr' rd', c.2 = .ints k ys ∧ (∀ b ∈ c.1, b = true) ∧ (f ys).run H = some (tr', rd') ∧ tr'.get = some out := by
  unfold withI at h
  split at h
  · rename_i k' ys hc
    split at h
    · rename_i hk
      obtain rfl : k = k' := of_decide_eq_true hk
      obtain ⟨tr', rd', h1, h2, h3⟩ := needs_run h hg
      exact ⟨ys, tr', rd', hc, h3, h1, h2⟩
    · exact (fail_run h).elim
  · exact (fail_run h).elim

theorem appendSem_run {t t2 ty : TypeId} {nx : Nat} {a x : AV} {cva cvx : Value} {tr : Tr Out} {rd : List Nat} {out : Out} (h : (appendSem P nx t t2 a x).run H = some (tr, rd)) (hg : tr.get = some out) (hH : RelH cx Wr β H D w) (hf : Fresh D out) (ha : RelV cx β a cva) (hx : RelV cx β x cvx) :
    ∃ y w', (Builtin.append_ #[t, t2] ty #[cva, cvx]).run P w = .ok y w' ∧ Post cx Wr β H D out y w' := by
  unfold appendSem at h
  split at h
  · rename_i a x
    split at h
    · rename_i h2
      split at h
      · rename_i k hk
        obtain ⟨⟨r, c⟩, l1, l2, h3, h4, rfl⟩ := RM.run_bind h
        obtain ⟨ys, tr', rd', hc, hr, h5, hg⟩ := withI_run h4 hg
        simp only at hc hr
        subst hc
        have hs := catSrc_src (P := P) hH hx h3 hr
        rw [srcLen_eq hH hx h3 hr] at h5
        cases a with
        | nil =>
          have ha : cva = .slice none 0 0 := ha
          subst ha
          exact catNil_run hk h2 hs h5 hg hH hf
        | sl m b off len sz =>
          by_cases h1 : sz = 1
          · subst h1
            exact catSl_run hk h2 hs h5 hg hH hf ha
          · unfold catO at h5
            split at h5
            · rename_i heq; cases heq
            · rename_i heq; simp only [SV.sl.injEq] at heq; exact absurd heq.2.2.2.2 h1
            · exact (fail_run h5).elim
        | _ => exact (fail_run h5).elim
      · exact (fail_run h).elim
    · exact (fail_run h).elim
  · exact (fail_run h).elim

theorem run_copy_gen {t t2 ty e : TypeId} {i : TypeInfo} (hu : P.underlying t = some (.slice e)) (hi : P.info? e = some i) (hsz : i.size = 1) {base : Option Addr} {dLen cap n m : Nat} {x : Value} {L : List Value} {w' : World}
    (hlen : (Builtin.lenOf x).run P w = .ok n w) (hm : Nat.min n dLen = m) (hnow : (Builtin.firstCells 1 m x).run P w = .ok L.toArray w) (hst : ∀ p, base = some p → (storeCells p L).run P w = .ok () w') (hnone : base = none → w' = w) :
    (Builtin.copy_ #[t, t2] ty #[.slice base dLen cap, x]).run P w = .ok (.int .i64 (m : Int)) w' := by
  cases base with
  | none =>
    obtain rfl := hnone rfl
    simp [Builtin.copy_, run_underlying hu, hlen, sizeOf, typeInfo, hi, hsz, hm, hnow, goInt]
  | some p =>
    have := hst p rfl
    simp [Builtin.copy_, run_underlying hu, hlen, sizeOf, typeInfo, hi, hsz, hm, hnow, this, goInt]

theorem copySem_run {t t2 ty : TypeId} {a x : AV} {cva cvx : Value} {tr : Tr Out} {rd : List Nat} {out : Out} (h : (copySem P t a x).run H = some (tr, rd)) (hg : tr.get = some out) (hH : RelH cx Wr β H D w) (ha : RelV cx β a cva) (hx : RelV cx β x cvx) :
    ∃ y w', (Builtin.copy_ #[t, t2] ty #[cva, cvx]).run P w = .ok y w' ∧ Post cx Wr β H D out y w' := by
  unfold copySem at h
  split at h
  · rename_i a x
    split at h
    · rename_i k hk
      obtain ⟨e, i, hu, hke, hi, hsz, hby, hz⟩ := elemInt_spec hk
      obtain ⟨⟨r, c⟩, l1, l2, h3, h4, rfl⟩ := RM.run_bind h
      obtain ⟨ys, tr', rd', hc, hr, h5, hg⟩ := withI_run h4 hg
      simp only at hc hr
      subst hc
      have hs := catSrc_src (P := P) hH hx h3 hr
      rw [srcLen_eq hH hx h3 hr] at h5
      unfold copyO at h5
      split at h5
      · rename_i m b off len
        obtain ⟨cs, l, hcs, hk2, rfl⟩ := RM.run_look h5
        split at hk2
        · rename_i k' n xs
          split at hk2
          · rename_i hkk
            obtain rfl : k = k' := of_decide_eq_true hkk
            obtain rfl := pure_run hk2
            obtain ⟨h0, hg⟩ := Tr.needs_get hg
            obtain rfl := leaf_get hg
            simp only [List.mem_cons, List.not_mem_nil, or_false, forall_eq_or_imp, forall_eq, decide_eq_true_eq] at h0
            obtain ⟨h0, hbig⟩ := h0
            rw [addOff_eq] at h0
            have hwf := hH.wf _ _ hcs k n xs (List.mem_singleton.2 rfl)
            have hlen := hs.len w
            have hnow := hs.now (min ys.length len) (Nat.min_le_left _ _)
            have hml : ((ys.take (min ys.length len)).map fun x : Nat => Value.int k x).length = min ys.length len := by simp
            have hrun : ∀ (base : Option Addr) (cap : Nat) (w' : World), (∀ p, base = some p → (storeCells p ((ys.take (min ys.length len)).map fun x : Nat => Value.int k x)).run P w = .ok () w') → (base = none → w' = w) →
                (Builtin.copy_ #[t, t2] ty #[.slice base len cap, cvx]).run P w = .ok (.int .i64 ((min ys.length len : Nat) : Int)) w' := by
              intro base cap w' h6 h7
              exact run_copy_gen hu hi hsz hlen rfl hnow h6 h7
            have hlim : ∀ q, β b = some q → ∀ x ∈ xs, x < lim k := by
              intro q hq
              obtain ⟨_, _, _, _, _, _, l, ⟨_, h, _⟩, _⟩ := hH.held b q _ hq hcs
              exact h
            rcases ha with ⟨rfl, rfl⟩ | ⟨q, cap, y, hq, rfl, hya, hlc, hsz2⟩
            · refine ⟨_, w, hrun none 0 w (fun p h => by cases h) (fun _ => rfl), β, Ext.refl β, ⟨by simp, by simp only [lim]; omega⟩, ?_⟩
              rw [happ_wr, dapp_wr]
              refine hH.mono (fun _ h => h) (fun m c hc => ?_)
              split at hc
              · rename_i hm
                subst hm
                rw [← hc]
                simp only [Nat.zero_le, Nat.min_eq_right, List.take_zero, List.nil_append, Nat.add_zero, List.take_append_drop]
                exact hcs
              · exact hc
            · by_cases hc0 : cap = 0
              · have hl0 : len = 0 := by omega
                subst hl0
                refine ⟨_, w, hrun (some _) cap w (fun p h => by cases h; simp [storeCells]) (fun h => by cases h), β, Ext.refl β, ⟨rfl, by simp only [lim]; omega⟩, ?_⟩
                rw [happ_wr, dapp_wr]
                refine hH.mono (fun _ h => h) (fun m c hc => ?_)
                split at hc
                · rename_i hm
                  subst hm
                  rw [← hc]
                  simp only [Nat.zero_le, Nat.min_eq_right, List.take_zero, List.nil_append, Nat.add_zero, List.take_append_drop]
                  exact hcs
                · exact hc
              · obtain rfl := hya hc0
                obtain ⟨h6, h7⟩ := write_run (P := P) (n := b) (q := q) (o := off) (vs := (ys.take (min ys.length len)).map fun x : Nat => Value.int k x) (cs := [.ints k n xs])
                  (cs' := [.ints k n (xs.take off ++ (ys.take (min ys.length len) ++ xs.drop (off + min ys.length len)))]) hH hq hcs (map_oneCell _) (by rw [hml]; omega) (fun l hl => by
                    obtain ⟨a1, a2, l', rfl, rfl⟩ := hl
                    have hll : (xs.take off ++ (ys.take (min ys.length len) ++ xs.drop (off + min ys.length len))).length = n := by simp; omega
                    obtain ⟨_, _, _, _, _, _, l2, hl2, hlq, _⟩ := hH.held b q _ hq hcs
                    have hl2 := hl2.length
                    simp only [sizeB, Ch.size] at hl2
                    refine ⟨_, relC_one hll (fun x hx => ?_), by simp only [List.length_map, hll]; omega, fun j v hv => ?_⟩
                    · rcases List.mem_append.1 hx with h | h
                      · exact a2 x (List.mem_of_mem_take h)
                      · rcases List.mem_append.1 h with h | h
                        · exact hs.lim x (List.mem_of_mem_take h)
                        · exact a2 x (List.mem_of_mem_drop h)
                    · rw [hml]
                      simp only [List.map_append] at hv
                      have e1 : ((xs.take off).map fun x : Nat => Value.int k x).length = off := by simp; omega
                      by_cases hj : off ≤ j ∧ j < off + min ys.length len
                      · rw [if_pos hj]
                        rw [List.getElem?_append_right (by omega), e1, List.getElem?_append_left (by omega)] at hv
                        exact hv
                      · rw [if_neg hj]
                        rw [List.append_nil]
                        by_cases hj2 : j < off
                        · rw [List.getElem?_append_left (by omega), List.map_take, List.getElem?_take, if_pos hj2] at hv
                          exact hv
                        · rw [List.getElem?_append_right (by omega), e1, List.getElem?_append_right (by omega), hml, List.map_drop, List.getElem?_drop] at hv
                          rwa [show off + min ys.length len + (j - off - min ys.length len) = j by omega] at hv)
                refine ⟨_, _, hrun (some _) cap _ (fun p h => by cases h; exact h6) (fun h => by cases h), β, Ext.refl β, ⟨rfl, by simp only [lim]; omega⟩, ?_⟩
                rw [happ_wr, dapp_wr]
                exact h7
          · exact (fail_run hk2).elim
        · exact (fail_run hk2).elim
      · exact (fail_run h5).elim
    · exact (fail_run h).elim
  · exact (fail_run h).elim

theorem makeO_run {nx : Nat} {k : IntKind} {l c : Option (List Bool × Nat)} {tr : Tr Out} {rd : List Nat} {out : Out} (h : (makeO nx k l c).run H = some (tr, rd)) (hg : tr.get = some out) :
    ∃ rl a rc b, l = some (rl, a) ∧ c = some (rc, b) ∧ (∀ x ∈ rl, x = true) ∧ (∀ x ∈ rc, x = true) ∧ a ≤ b ∧ b ≤ 4398046511104 ∧ out = ⟨.s (.sl .whole nx 0 a 1), [], [(nx, [.ints k a (List.replicate a 0)])]⟩ := by
  unfold makeO at h
  split at h
  · split at h
    · obtain rfl := pure_run h
      obtain ⟨hr, hg⟩ := Tr.needs_get hg
      obtain rfl := leaf_get hg
      obtain ⟨hr1, hr2⟩ := all_app hr
      obtain ⟨hr3, hr4⟩ := all_app hr2
      simp only [List.mem_cons, List.not_mem_nil, or_false, forall_eq_or_imp, forall_eq, decide_eq_true_eq] at hr4
      exact ⟨_, _, _, _, rfl, rfl, hr1, hr3, hr4.1, hr4.2, rfl⟩
    · exact (fail_run h).elim
  · exact (fail_run h).elim

theorem makeSliceSem_run {t : TypeId} {nx : Nat} {l c : AV} {cvl cvc : Value} {tr : Tr Out} {rd : List Nat} {out : Out} (h : (makeSliceSem P nx t l c).run H = some (tr, rd)) (hg : tr.get = some out) (hH : RelH cx Wr β H D w) (hf : Fresh D out) (hl : RelV cx β l cvl) (hc : RelV cx β c cvc) :
    ∃ y w', (Instr.makeSlice t cvl cvc).run P w = .ok y w' ∧ Post cx Wr β H D out y w' := by
  unfold makeSliceSem at h
  split at h
  · split at h
    · rename_i k hk
      obtain ⟨e, i, hu, hke, hi, hsz, hby, hz⟩ := elemInt_spec hk
      obtain ⟨rl, a, rc, b, h1, h2, h3, h4, h5, h6, rfl⟩ := makeO_run h hg
      obtain ⟨k1, rfl, _⟩ := asIx_run (P := P) h1 h3 hl w
      obtain ⟨k2, rfl, _⟩ := asIx_run (P := P) h2 h4 hc w
      have hfn : ¬ D nx := hf nx (by simp [lkF_self])
      have hb : i.bytes * b ≤ 8 * 4398046511104 := Nat.mul_le_mul hby h6
      have hrun := run_make (P := P) w t e i (.int k 0) hu hi hz k1 k2 (a : Int) (b : Int) (by omega) (by omega) (by rw [← Int.natCast_mul]; omega) (by omega)
      simp only [Int.toNat_natCast, hsz, Nat.mul_one] at hrun
      refine ⟨_, _, hrun, ?_⟩
      have hcell : ∀ j, j < b → (madeCells (Value.int k 0).cells b)[j]? = some (.int k 0) := by
        intro j hj
        simp [madeCells, Value.cells, hj, Nat.mod_one]
      have hms : (madeCells (Value.int k 0).cells b).size = b := size_madeCells _ _
      have hrep : ∀ x ∈ List.replicate a 0, x < lim k := fun x hx => by rw [(List.mem_replicate.1 hx).2]; exact lim_pos k
      have h7 := hH.alloc hfn (c := madeCells (Value.int k 0).cells b) (T := e) (relC_one (cx := cx) (β := β) (k := k) (n := a) (by simp) hrep) (by simp [hms]; exact h5) (fun j v hv => by
        rw [List.getElem?_map, Option.map_eq_some_iff] at hv
        obtain ⟨x, hx, rfl⟩ := hv
        have hj := (List.getElem?_eq_some_iff.1 hx).1
        simp only [List.length_replicate] at hj
        have : x = 0 := by
          rw [List.getElem?_replicate, if_pos hj] at hx; exact (Option.some.inj hx).symm
        subst this
        exact hcell j (by omega))
      rw [hms] at h7
      refine ⟨β.put nx ⟨w.heap.size, 0, b⟩, Bm.ext_put (hH.none_of_fresh hfn), .inr ⟨⟨w.heap.size, 0, b⟩, b, 0, by simp [Bm.put], rfl, fun _ => rfl, h5, by simp⟩, ?_⟩
      rw [happ_new, dapp_new]
      exact h7
    · exact (fail_run h).elim
  · exact (fail_run h).elim

end
end Go.Proofs.Ytgebgjhjegadpaa

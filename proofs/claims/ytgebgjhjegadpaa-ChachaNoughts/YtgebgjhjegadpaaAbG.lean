/-
  The abstract machine: its operations, one by one, against the model's: new variables, structs, conversions.
-/
import Derived.Test.YtgebgjhjegadpaaAbF
namespace Go.Proofs.Ytgebgjhjegadpaa
open Go

section
variable {P : Program} {cx : Cx} {Wr : Nat → Prop} {β : Bm} {H : Nat → Option Blk} {D : Nat → Prop} {w : World}

/-- What names an outcome makes are new. -/
def Fresh (D : Nat → Prop) (out : Out) : Prop := ∀ n, (lkF out.nw n).isSome = true → ¬ D n

theorem lkF_self {α : Type} (n : Nat) (x : α) (r : List (Nat × α)) : lkF ((n, x) :: r) n = some x := by simp [lkF]

theorem newSem_run {nx : Nat} {o : Option (List Ch)} {tr : Tr Out} {rd : List Nat} {out : Out} (h : (newSem nx o).run H = some (tr, rd)) (hg : tr.get = some out) :
    ∃ z, o = some z ∧ out = ⟨.s (.ptr nx 0), [], [(nx, z)]⟩ := by
  unfold newSem at h
  split at h
  · obtain rfl := pure_run h; exact ⟨_, rfl, leaf_get hg⟩
  · exact (fail_run h).elim

theorem alloc_run {nx : Nat} {t : TypeId} {tr : Tr Out} {rd : List Nat} {out : Out} (h : (newSem nx (zeroB P t)).run H = some (tr, rd)) (hg : tr.get = some out) (hH : RelH cx Wr β H D w) (hf : Fresh D out) :
    ∃ x w', (Instr.alloc t true (.tuple #[])).run P w = .ok x w' ∧ Post cx Wr β H D out x w' := by
  obtain ⟨z, hz, rfl⟩ := newSem_run h hg
  obtain ⟨i, v, hi, hv, hr⟩ := zeroB_info hz
  obtain ⟨h1, h2⟩ := post_new (P := P) (T := t) hH (hf nx (by simp [lkF_self])) (hr cx β)
  refine ⟨_, _, ?_, h2⟩
  simp only [Instr.alloc, Sem.run_bind, run_zeroValue' hi hv, Result.andThen_ok, newVar]
  simp only [Array.toArray_toList] at h1
  simp only [h1, Result.andThen_ok, Sem.run_pure, Array.toArray_toList]

theorem box_run {nx : Nat} {t : TypeId} {x : AV} {cv : Value} {tr : Tr Out} {rd : List Nat} {out : Out} (h : (newSem nx x.cells).run H = some (tr, rd)) (hg : tr.get = some out) (hH : RelH cx Wr β H D w) (hx : RelV cx β x cv) (hf : Fresh D out) :
    ∃ x w', (Instr.box t cv).run P w = .ok x w' ∧ Post cx Wr β H D out x w' := by
  obtain ⟨z, hz, rfl⟩ := newSem_run h hg
  obtain ⟨h1, h2⟩ := post_new (P := P) (T := t) hH (hf nx (by simp [lkF_self])) (AV.cells_rel hz hx)
  refine ⟨_, _, ?_, h2⟩
  simp only [Instr.box, newVar, Sem.run_bind]
  simp only [Array.toArray_toList] at h1
  simp only [h1, Result.andThen_ok, Sem.run_pure, Array.toArray_toList]

/-! Structs and arrays, built. -/
theorem foldl_set (v : List Value) : ∀ (k : Nat) (c : Array Value) (off : Nat), off + k + v.length ≤ c.size →
    ((v.zipIdx k).foldl (fun cs (p : Value × Nat) => cs.setIfInBounds (off + p.2) p.1) c).toList = c.toList.take (off + k) ++ v ++ c.toList.drop (off + k + v.length) := by
  induction v with
  | nil => intro k c off h; simp
  | cons x v ih =>
    intro k c off h
    simp only [List.length_cons] at h
    simp only [List.zipIdx_cons, List.foldl_cons]
    rw [ih (k + 1) _ off (by simp; omega)]
    simp only [Array.toList_setIfInBounds, List.length_cons]
    have hlt : off + k < c.toList.length := by simp; omega
    rw [List.set_eq_take_append_cons_drop, if_pos hlt]
    have hA : (c.toList.take (off + k)).length = off + k := by simp; omega
    generalize c.toList.take (off + k) = A at *
    rw [List.take_append, List.take_of_length_le (l := A) (by omega), List.drop_append, List.drop_of_length_le (l := A) (by omega),
      show off + (k + 1) - A.length = 1 by omega, show off + (k + 1) + v.length - A.length = v.length + 1 by omega]
    simp only [List.take_succ_cons, List.take_zero, List.drop_succ_cons, List.nil_append, List.drop_drop, List.append_assoc, List.cons_append]
    rw [show off + k + 1 + v.length = off + k + (v.length + 1) by omega]

theorem fillB_run {f : Nat → Option (Nat × Nat)} {g : Nat → Option (Nat × Nat)} (hfg : ∀ i p, f i = some p → g i = some p) : ∀ (ps : List (Nat × AV)) (vs : List (Nat × Value)) (cs r : List Ch) (c : Array Value),
    fillB f ps cs = some r → RelC cx β cs c.toList → (∀ (j : Nat) (p : Nat × AV), ps[j]? = some p → ∃ cv, vs[j]? = some (p.1, cv) ∧ RelV cx β p.2 cv) → ps.length = vs.length →
    ∃ c', Instr.fill g c vs = some c' ∧ RelC cx β r c'.toList := by
  intro ps
  induction ps with
  | nil =>
    intro vs cs r c h hc hp hl
    cases vs with
    | nil => simp only [fillB, Option.some.injEq] at h; subst h; exact ⟨c, rfl, hc⟩
    | cons v vs => simp at hl
  | cons p ps ih =>
    intro vs cs r c h hc hp hl
    cases vs with
    | nil => simp at hl
    | cons q vs =>
      obtain ⟨i, v⟩ := p
      obtain ⟨cv, hq, hv⟩ := hp 0 _ rfl
      simp only [List.getElem?_cons_zero, Option.some.injEq] at hq
      subst hq
      unfold fillB at h
      split at h
      · rename_i off sz new hfi hcells
        split at h
        · rename_i hsz
          have hsz := Nat.eq_of_beq_eq_true hsz
          split at h
          · rename_i cs' hput
            have hnew := AV.cells_rel hcells hv
            have hle := putB_le hput
            have hlen := hc.length
            have hnl := hnew.length
            have h1 := putB_rel hput hc hnew
            have hb : off + cv.cells.toList.length ≤ c.size := by rw [hnl]; simp at hlen; omega
            have e := foldl_set cv.cells.toList 0 c off (by simpa using hb)
            simp only [Nat.add_zero] at e
            obtain ⟨c', h2, h3⟩ := ih vs cs' r ((cv.cells.toList.zipIdx).foldl (fun cs (p : Value × Nat) => cs.setIfInBounds (off + p.2) p.1) c) h (by rw [e]; exact h1)
              (fun j p hj => by simpa using hp (j + 1) p (by simpa using hj)) (by simpa using hl)
            refine ⟨c', ?_, h3⟩
            simp only [Instr.fill, hfg _ _ hfi]
            have e1 : ¬ (cv.cells.size ≠ sz ∨ off + cv.cells.size > c.size) := by
              have : cv.cells.size = cv.cells.toList.length := by simp
              omega
            rw [if_neg (by simpa using e1)]
            rw [← h2]
            congr 1
            rw [← Array.foldl_toList]
            simp
          · cases h
        · cases h
      · cases h

theorem mapM_places {fs : List Field} (h : (fs.all fun f => (tySize P f.type).isSome) = true) (w : World) :
    ((fs.mapM fun f => (do pure (f.offset, ← sizeOf f.type) : Sem (Nat × Nat))).run P w) = .ok (fs.map fun f => (f.offset, (tySize P f.type).getD 0)) w := by
  induction fs with
  | nil => rfl
  | cons f fs ih =>
    simp only [List.all_cons, Bool.and_eq_true] at h
    obtain ⟨sz, hsz⟩ := Option.isSome_iff_exists.1 h.1
    simp only [List.mapM_cons, Sem.run_bind, run_sizeOf' hsz, Result.andThen_ok, Sem.run_pure, ih h.2, List.map_cons, hsz, Option.getD_some]

theorem placeS_spec {fs : Array Field} {i : Nat} {p : Nat × Nat} (h : placeS P fs i = some p) : ((fs.toList.map fun f => (f.offset, (tySize P f.type).getD 0)).toArray)[i]? = some p := by
  unfold placeS at h
  split at h
  · rename_i f hf
    split at h
    · rename_i sz hsz
      simp only [Option.some.injEq] at h
      subst h
      simp [hf, hsz]
    · cases h
  · cases h

theorem buildSem_run {t : TypeId} {ps : List (Nat × AV)} {vs : Array (Nat × Value)} {tr : Tr Out} {rd : List Nat} {out : Out} (h : (buildSem P t ps).run H = some (tr, rd)) (hg : tr.get = some out) (hH : RelH cx Wr β H D w)
    (hp : ∀ (j : Nat) (p : Nat × AV), ps[j]? = some p → ∃ cv, vs.toList[j]? = some (p.1, cv) ∧ RelV cx β p.2 cv) (hl : ps.length = vs.toList.length) :
    ∃ x, (Instr.build t vs).run P w = .ok x w ∧ Post cx Wr β H D out x w := by
  unfold buildSem at h
  split at h
  · rename_i z hz
    obtain ⟨i, zv, hi, hzv, hr⟩ := zeroB_info hz
    split at h
    · rename_i fs hu
      split at h
      · rename_i hall
        obtain ⟨cs, hfill, rfl⟩ := aggO_run h hg
        obtain ⟨c', h1, h2⟩ := fillB_run (cx := cx) (β := β) (fun i p hi => placeS_spec hi) ps vs.toList z cs zv.cells hfill (hr cx β) hp hl
        refine ⟨.agg c', ?_, post_val hH (RelV.of1 ⟨c'.toList, by simp, h2⟩)⟩
        have hm := mapM_places hall w
        have hm2 : (fs.mapM fun f => (do pure (f.offset, ← sizeOf f.type) : Sem (Nat × Nat))).run P w = .ok ((fs.toList.map fun f => (f.offset, (tySize P f.type).getD 0)).toArray) w := by
          rw [Array.mapM_eq_mapM_toList, Sem.run_map, hm]; rfl
        simp only [Instr.build, Sem.run_bind, run_zeroValue' hi hzv, Result.andThen_ok, run_underlying hu, hm2, h1, Sem.run_pure]
      · exact (fail_run h).elim
    · rename_i n e hu
      split at h
      · rename_i sz hsz
        obtain ⟨cs, hfill, rfl⟩ := aggO_run h hg
        obtain ⟨c', h1, h2⟩ := fillB_run (cx := cx) (β := β) (fun i p hi => hi) ps vs.toList z cs zv.cells hfill (hr cx β) hp hl
        refine ⟨.agg c', ?_, post_val hH (RelV.of1 ⟨c'.toList, by simp, h2⟩)⟩
        simp only [Instr.build, Sem.run_bind, run_zeroValue' hi hzv, Result.andThen_ok, run_underlying hu, run_sizeOf' hsz, h1, Sem.run_pure]
      · exact (fail_run h).elim
    · exact (fail_run h).elim
  · exact (fail_run h).elim

end
end Go.Proofs.Ytgebgjhjegadpaa

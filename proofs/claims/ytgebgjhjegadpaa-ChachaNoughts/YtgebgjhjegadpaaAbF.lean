/-
  The abstract machine: its operations, one by one, against the model's: variables, arrays, slices.
-/
import Derived.Test.YtgebgjhjegadpaaAbE
namespace Go.Proofs.Ytgebgjhjegadpaa
open Go

section
variable {P : Program} {cx : Cx} {Wr : Nat → Prop} {β : Bm} {H : Nat → Option Blk} {D : Nat → Prop} {w : World}

theorem aggO_run {o : Option (List Ch)} {t : Tr Out} {rd : List Nat} {out : Out} (h : (aggO o).run H = some (t, rd)) (hg : t.get = some out) : ∃ cs, o = some cs ∧ out = Out.val (.agg cs) := by
  unfold aggO at h
  split at h
  · simp only [RM.run, Option.some.injEq, Prod.mk.injEq] at h
    obtain ⟨rfl, _⟩ := h
    simp only [Tr.get, Option.some.injEq] at hg
    exact ⟨_, rfl, hg.symm⟩
  · simp [RM.run] at h

theorem pure_run {α : Type} {x t : α} {rd : List Nat} (h : (RM.pure x).run H = some (t, rd)) : t = x := by
  simp only [RM.run, Option.some.injEq, Prod.mk.injEq] at h
  exact h.1.symm

theorem fail_run {α : Type} {t : α} {rd : List Nat} (h : (RM.fail : RM α).run H = some (t, rd)) : False := by simp [RM.run] at h

theorem oneT_get {v : SV} {out : Out} (h : (oneT v).get = some out) : out = Out.val (.s v) := by
  simp only [oneT, Tr.get, Option.some.injEq] at h
  exact h.symm

theorem leaf_get {o out : Out} (h : (Tr.leaf o).get = some out) : out = o := by
  simp only [Tr.get, Option.some.injEq] at h
  exact h.symm

theorem cellO_run {o : Option (List Bool × SV)} {t : Tr Out} {rd : List Nat} {out : Out} (h : (cellO o).run H = some (t, rd)) (hg : t.get = some out) : ∃ r v, o = some (r, v) ∧ (∀ b ∈ r, b = true) ∧ out = Out.val (.s v) := by
  unfold cellO at h
  split at h
  · obtain rfl := pure_run h
    obtain ⟨h1, h2⟩ := Tr.needs_get hg
    exact ⟨_, _, rfl, h1, oneT_get h2⟩
  · exact (fail_run h).elim

theorem run_loadVar_agg {t : TypeId} {sz b o : Nat} {l : List Value} (h1 : isAggT P t = some true) (h2 : tySize P t = some sz) (hl : l.length = sz) (hc : ∀ i v, l[i]? = some v → w.cell? ⟨b, o + i, none⟩ = some v) :
    (loadVar t ⟨b, o, none⟩).run P w = .ok (.agg l.toArray) w := by
  simp only [loadVar, Sem.run_bind, run_isAgg' h1, Result.andThen_ok, if_true, run_sizeOf' h2, run_cells hc hl, Sem.run_pure]

theorem run_loadVar_one {t : TypeId} {b o : Nat} {v : Value} (h1 : isAggT P t = some false) (hc : w.cell? ⟨b, o, none⟩ = some v) :
    (loadVar t ⟨b, o, none⟩).run P w = .ok v w := by
  simp only [loadVar, Sem.run_bind, run_isAgg' h1, Result.andThen_ok, Bool.false_eq_true, if_false, run_load, hc]

theorem subB_cells {cs : List Ch} {off sz : Nat} {r : List Ch} {l : List Value} (h : subB off sz cs = some r) (hl : RelC cx β cs l) : RelC cx β r ((l.drop off).take sz) ∧ ((l.drop off).take sz).length = sz := by
  refine ⟨subB_rel h hl, ?_⟩
  by_cases h0 : sz = 0
  · subst h0; simp
  · have := subB_le h h0 hl
    simp; omega

theorem loadPtr_run {t : TypeId} {b off : Nat} {tr : Tr Out} {rd : List Nat} {out : Out} {cv : Value} (h : (loadPtr P t b off).run H = some (tr, rd)) (hg : tr.get = some out) (hH : RelH cx Wr β H D w) (hv : RelP β (b, off) cv) :
    ∃ x, (Instr.loadAt t cv).run P w = .ok x w ∧ Post cx Wr β H D out x w := by
  obtain ⟨q, hq, rfl⟩ := hv
  obtain ⟨cs, l', hcs, hk, _⟩ := RM.run_look h
  obtain ⟨l, hl, hcell⟩ := (hH.held _ _ _ hq hcs).cells
  split at hk
  · rename_i ha
    split at hk
    · rename_i sz hsz
      obtain ⟨r, hr, rfl⟩ := aggO_run hk hg
      obtain ⟨h1, h2⟩ := subB_cells hr hl
      refine ⟨_, ?_, post_val hH (RelV.of1 ⟨_, rfl, h1⟩)⟩
      simp only [Instr.loadAt, Instr.sureAddr, Sem.run_bind, Sem.run_pure, Result.andThen_ok]
      exact run_loadVar_agg ha hsz h2 (fun i v e => by rw [Nat.add_assoc]; exact hcell _ _ (drop_take_get e))
    · exact (fail_run hk).elim
  · rename_i ha
    obtain ⟨r, v, hc, hr, rfl⟩ := cellO_run hk hg
    obtain ⟨cv, h1, h2⟩ := getC_rel _ _ _ _ _ hc hr hl
    refine ⟨cv, ?_, post_val hH h2⟩
    simp only [Instr.loadAt, Instr.sureAddr, Sem.run_bind, Sem.run_pure, Result.andThen_ok]
    exact run_loadVar_one ha (hcell _ _ h1)
  · exact (fail_run hk).elim

theorem relC_ints {k : IntKind} {xs : List Nat} (h : ∀ x ∈ xs, x < lim k) : RelC cx β [.ints k xs.length xs] (xs.map fun x : Nat => Value.int k x) :=
  ⟨rfl, h, [], by simp, rfl⟩

theorem RdI.lim {k : IntKind} {xs : List Nat} {b o : Nat} (h : RdI cx k xs b o) : ∀ x ∈ xs, x < Go.Proofs.Ytgebgjhjegadpaa.lim k := by
  intro x hx
  obtain ⟨i, hi⟩ := List.mem_iff_getElem?.1 hx
  exact (h i x hi).2.2

theorem RdI.cut {k : IntKind} {xs : List Nat} {b o : Nat} (h : RdI cx k xs b o) (a n : Nat) : RdI cx k ((xs.drop a).take n) b (o + a) := by
  intro i x e
  have := h (a + i) x (by
    rw [List.getElem?_take] at e
    split at e
    · simpa using e
    · cases e)
  rwa [← Nat.add_assoc] at this

theorem RdI.cells {k : IntKind} {xs : List Nat} {b o : Nat} (hH : RelH cx Wr β H D w) (h : RdI cx k xs b o) : ∀ i v, (xs.map fun x : Nat => Value.int k x)[i]? = some v → w.cell? ⟨b, o + i, none⟩ = some v := by
  intro i v e
  rw [List.getElem?_map, Option.map_eq_some_iff] at e
  obtain ⟨x, hx, rfl⟩ := e
  obtain ⟨h1, h2, _⟩ := h i x hx
  rw [hH.cell h1, h2]

theorem getD_some {α : Type} {xs : List α} {i : Nat} {d : α} (h : i < xs.length) : xs[i]? = some (xs.getD i d) := by
  simp [List.getD, List.getElem?_eq_getElem h]

theorem loadX_run {t : TypeId} {c : XC} {i : Nat} {tr : Tr Out} {rd : List Nat} {out : Out} {cv : Value} (h : (loadX P t c i).run H = some (tr, rd)) (hg : tr.get = some out) (hH : RelH cx Wr β H D w) (hv : RelS cx β (.xptr c i) cv) :
    ∃ x, (Instr.loadAt t cv).run P w = .ok x w ∧ Post cx Wr β H D out x w := by
  obtain ⟨b, o, rfl, hx⟩ := hv
  have e0 : (Instr.loadAt t (.pointer (some ⟨b, o + i * c.sz, none⟩))) = loadVar t ⟨b, o + i * c.sz, none⟩ := rfl
  rw [e0]
  unfold loadX at h
  split at h
  · rename_i ha
    split at h
    · rename_i k xs
      obtain rfl := pure_run h
      obtain ⟨h0, hg⟩ := Tr.need_get hg
      obtain rfl := oneT_get hg
      have h0 := of_decide_eq_true h0
      obtain ⟨h1, h2, h3⟩ := hx _ _ (getD_some (d := 0) h0)
      refine ⟨_, run_loadVar_one ha (v := .int k (xs.getD i 0)) ?_, post_val hH (RelV.of1 ⟨rfl, h3⟩)⟩
      simp only [XC.sz, Nat.mul_one]
      rw [hH.cell h1, h2]
    · rename_i xss
      obtain rfl := pure_run h
      obtain ⟨h0, hg⟩ := Tr.need_get hg
      obtain rfl := oneT_get hg
      have h0 := of_decide_eq_true h0
      obtain ⟨h1, cv, h2, h3⟩ := hx _ _ (getD_some (d := []) h0)
      refine ⟨cv, run_loadVar_one ha ?_, post_val hH (RelV.of1 (v := .s _) ?_)⟩
      · simp only [XC.sz, Nat.mul_one]
        rw [hH.cell h1, h2]
      · rcases h3 with ⟨h3, h4⟩ | ⟨b', o', cap, h4, h5, h6⟩
        · exact .inl ⟨by simp only [XC.len, h3]; rfl, h4⟩
        · exact .inr ⟨b', o', cap, h4, h5, h6⟩
    · exact (fail_run h).elim
  · rename_i ha
    split at h
    · rename_i sz hsz
      split at h
      · rename_i k xs
        obtain rfl := pure_run h
        obtain ⟨h0, hg⟩ := Tr.need_get hg
        obtain rfl := leaf_get hg
        have h0 := of_decide_eq_true h0
        have hc := RdI.cut hx i sz
        have hlen : ((xs.drop i).take sz).length = sz := by simp; omega
        have hcells := RdI.cells hH hc
        generalize (xs.drop i).take sz = ys at *
        simp only [XC.sz, Nat.mul_one]
        refine ⟨_, run_loadVar_agg ha hsz (by simpa using hlen) hcells, post_val hH (RelV.of1 ⟨_, rfl, ?_⟩)⟩
        have := relC_ints (cx := cx) (β := β) hc.lim
        rwa [hlen] at this
      · rename_i k n xss
        split at h
        · rename_i hn
          obtain rfl : n = sz := Nat.eq_of_beq_eq_true hn
          obtain rfl := pure_run h
          obtain ⟨h0, hg⟩ := Tr.need_get hg
          obtain rfl := leaf_get hg
          have h0 := of_decide_eq_true h0
          obtain ⟨h1, h2⟩ := hx _ _ (getD_some (d := []) h0)
          refine ⟨_, run_loadVar_agg ha hsz (by simpa using h1) (RdI.cells hH h2), post_val hH (RelV.of1 ⟨_, rfl, ?_⟩)⟩
          have := relC_ints (cx := cx) (β := β) h2.lim
          rwa [h1] at this
        · exact (fail_run h).elim
      · exact (fail_run h).elim
    · exact (fail_run h).elim
  · exact (fail_run h).elim

theorem loadSem_run {t : TypeId} {x : AV} {tr : Tr Out} {rd : List Nat} {out : Out} {cv : Value} (h : (loadSem P t x).run H = some (tr, rd)) (hg : tr.get = some out) (hH : RelH cx Wr β H D w) (hv : RelV cx β x cv) :
    ∃ x, (Instr.loadAt t cv).run P w = .ok x w ∧ Post cx Wr β H D out x w := by
  unfold loadSem at h
  split at h
  · exact loadPtr_run h hg hH hv
  · exact loadX_run h hg hH hv
  · exact (fail_run h).elim

/-! Stores. -/
theorem setCells_heap (b : Nat) : ∀ (vs : List Value) (o : Nat) (w : World) (c : Array Value) (T : TypeId) (fr : Nat × Nat), w.heap[b]? = some (.cells c T fr) →
    ∃ c', (w.setCells b o vs).heap[b]? = some (.cells c' T fr) ∧ c'.size = c.size ∧ ∀ i, c'[i]? = if o ≤ i ∧ i < o + vs.length ∧ i < c.size then vs[i - o]? else c[i]?
  | [], o, w, c, T, fr, h => ⟨c, h, rfl, fun i => by rw [if_neg (by simp; omega)]⟩
  | v :: vs, o, w, c, T, fr, h => by
    have h1 : (w.setCell ⟨b, o, none⟩ v).heap[b]? = some (.cells (c.setIfInBounds o v) T fr) := by
      simp [World.setCell, Array.getElem?_modify, h]
    obtain ⟨c', h2, h3, h4⟩ := setCells_heap b vs (o + 1) _ _ _ _ h1
    refine ⟨c', h2, by simpa using h3, fun i => ?_⟩
    rw [h4 i]
    simp only [Array.size_setIfInBounds, List.length_cons]
    by_cases hi : o + 1 ≤ i ∧ i < o + 1 + vs.length ∧ i < c.size
    · rw [if_pos hi, if_pos (by omega)]
      obtain ⟨d, rfl⟩ : ∃ d, i = o + 1 + d := ⟨i - (o + 1), by omega⟩
      rw [show o + 1 + d - (o + 1) = d by omega, show o + 1 + d - o = d + 1 by omega]
      rfl
    · rw [if_neg hi]
      by_cases ho : i = o
      · subst ho
        by_cases hs : i < c.size
        · rw [if_pos (by omega)]; simp [hs]
        · rw [if_neg (by omega)]; simp [hs]
      · rw [if_neg (by omega)]
        simp [Array.getElem?_setIfInBounds_ne (show o ≠ i by omega)]

theorem setCells_other (b : Nat) : ∀ (vs : List Value) (o : Nat) (w : World), ((w.setCells b o vs).heap.size = w.heap.size ∧ (w.setCells b o vs).os = w.os ∧ (w.setCells b o vs).tape = w.tape ∧ (w.setCells b o vs).output = w.output) ∧
    ∀ k, k ≠ b → (w.setCells b o vs).heap[k]? = w.heap[k]?
  | [], _, _ => ⟨⟨rfl, rfl, rfl, rfl⟩, fun _ _ => rfl⟩
  | v :: vs, o, w => by
    obtain ⟨⟨h1, h2, h3, h4⟩, h5⟩ := setCells_other b vs (o + 1) (w.setCell ⟨b, o, none⟩ v)
    refine ⟨⟨by simpa [World.setCells] using h1, h2, h3, h4⟩, fun k hk => ?_⟩
    simp only [World.setCells]
    rw [h5 k hk, heap_setCell_other _ _ _ _ (by simpa using hk)]

/-- Cells are written into a live block: run, and what is so then. -/
theorem write_run {n : Nat} {q : Pl} {cs cs' : Blk} {o : Nat} {vs : List Value} (hH : RelH cx Wr β H D w) (hq : β n = some q) (hcs : H n = some cs) (h1 : ∀ v ∈ vs, v.oneCell' = true) (hb : o + vs.length ≤ q.size)
    (hn : ∀ l, RelC cx β cs l → ∃ l', RelC cx β cs' l' ∧ l'.length ≤ q.size ∧ ∀ (i : Nat) (v : Value), l'[i]? = some v → if o ≤ i ∧ i < o + vs.length then vs[i - o]? = some v else l[i]? = some v) :
    (storeCells ⟨q.blk, q.base + o, none⟩ vs).run P w = .ok () (w.setCells q.blk (q.base + o) vs) ∧ RelH cx Wr β (fun m => if m = n then some cs' else H m) D (w.setCells q.blk (q.base + o) vs) := by
  have hheld := hH.held n q cs hq hcs
  obtain ⟨c, T, fr, hc, hsz, hfr, l, hl, hlen, hcells⟩ := hheld
  constructor
  · have := run_storeCells_cells (P := P) q.blk (q.base + o) vs 0 w (fun j hj => by
      rw [cell_of_heap hc]; simp; omega) (fun j hj => frozen_of_heap hc (hfr _ (by omega) (by omega))) h1
    simpa using this
  · obtain ⟨⟨s1, s2, s3, s4⟩, s5⟩ := setCells_other q.blk vs (q.base + o) w
    refine hH.write hq hcs s1 s5 s2 s3 s4 ?_
    obtain ⟨c', e1, e2, e3⟩ := setCells_heap q.blk vs (q.base + o) w c T fr hc
    obtain ⟨l', hl', hlen', hv'⟩ := hn l hl
    refine ⟨c', T, fr, e1, by omega, hfr, l', hl', hlen', fun i v hi => ?_⟩
    have hlt : i < l'.length := by
      rcases Nat.lt_or_ge i l'.length with h | h
      · exact h
      · simp [List.getElem?_eq_none h] at hi
    have := hv' i v hi
    rw [e3]
    by_cases hin : o ≤ i ∧ i < o + vs.length
    · rw [if_pos hin] at this
      rw [if_pos (by omega), show q.base + i - (q.base + o) = i - o by omega]
      exact this
    · rw [if_neg hin] at this
      rw [if_neg (by omega)]
      exact hcells i v this

theorem storeSem_run {t : TypeId} {x y : AV} {tr : Tr Out} {rd : List Nat} {out : Out} {cvx cvy : Value} (h : (storeSem P t x y).run H = some (tr, rd)) (hg : tr.get = some out) (hH : RelH cx Wr β H D w) (hx : RelV cx β x cvx) (hy : RelV cx β y cvy) :
    ∃ w', (Instr.storeAt t cvx cvy).run P w = .ok () w' ∧ Post cx Wr β H D out undef w' := by
  have hkey : ∀ {b off sz : Nat} {cs cs' : Blk} {vs : List Value}, RelP β (b, off) cvx → tySize P t = some sz → cvy.cells = vs.toArray → vs.length = sz → H b = some cs → (∀ v ∈ vs, v.oneCell' = true) →
      (∀ l, RelC cx β cs l → off + vs.length ≤ l.length ∧ RelC cx β cs' (l.take off ++ vs ++ l.drop (off + vs.length))) →
      ∃ w', (Instr.storeAt t cvx cvy).run P w = .ok () w' ∧ Post cx Wr β H D ⟨.any, [(b, some cs')], []⟩ undef w' := by
    intro b off sz cs cs' vs hp hsz hvs hlen hcs h1 hn
    obtain ⟨q, hq, rfl⟩ := hp
    have hheld := hH.held b q cs hq hcs
    obtain ⟨c, T, fr, hc, hs, hfr, l, hl, hll, hcells⟩ := hheld
    have hcsz : sizeB cs ≤ q.size := by rw [← hl.length]; exact hll
    have hle0 := (hn l hl).1
    clear hc hs hfr hcells
    obtain ⟨h2, h3⟩ := write_run (P := P) (n := b) (q := q) (o := off) (vs := vs) (cs := cs) (cs' := cs') hH hq hcs h1 (by omega) (fun l hl => by
      obtain ⟨h4, h5⟩ := hn l hl
      refine ⟨_, h5, ?_, fun i v hi => ?_⟩
      · have := hl.length
        simp; omega
      · by_cases hin : off ≤ i ∧ i < off + vs.length
        · rw [if_pos hin]
          rw [List.append_assoc, List.getElem?_append_right (by simp; omega)] at hi
          rw [List.getElem?_append_left (by simp; omega)] at hi
          simpa [Nat.min_eq_left (show off ≤ l.length by omega)] using hi
        · rw [if_neg hin]
          by_cases hlt : i < off
          · rw [List.append_assoc, List.getElem?_append_left (by simp; omega)] at hi
            simpa [List.getElem?_take, hlt] using hi
          · rw [List.getElem?_append_right (by simp; omega)] at hi
            simp only [List.length_append, List.length_take, Nat.min_eq_left (show off ≤ l.length by omega), List.getElem?_drop] at hi
            rwa [show off + vs.length + (i - (off + vs.length)) = i by omega] at hi)
    refine ⟨w.setCells q.blk (q.base + off) vs, ?_, β, Ext.refl β, trivial, ?_⟩
    · simp only [Instr.storeAt, Instr.sureAddr, Sem.run_bind, Sem.run_pure, Result.andThen_ok, storeVar, run_sizeOf' hsz, hvs, List.size_toArray, hlen, ne_eq, not_true, if_false]
      exact h2
    · rw [happ_wr, dapp_wr]; exact h3
  unfold storeSem at h
  split at h
  · rename_i b off v
    split at h
    · rename_i sz hsz
      split at h
      · rename_i h1
        obtain rfl : sz = 1 := Nat.eq_of_beq_eq_true h1
        obtain ⟨cs, l', hcs, hk, _⟩ := RM.run_look h
        unfold storeO at hk
        split at hk
        · rename_i r cs' hset
          obtain rfl := pure_run hk
          obtain ⟨hr, hg⟩ := Tr.needs_get hg
          obtain rfl := leaf_get hg
          have hy' : RelS cx β v cvy := hy
          refine hkey (vs := [cvy]) hx hsz (by rw [oneCell_cells hy'.oneCell]) rfl hcs (by simpa using hy'.oneCell) (fun l hl => ?_)
          obtain ⟨h2, h3⟩ := setC_rel hy' _ _ _ _ _ hset hr hl
          refine ⟨by simp; omega, ?_⟩
          rw [List.set_eq_take_append_cons_drop, if_pos h3] at h2
          simpa using h2
        · exact (fail_run hk).elim
      · exact (fail_run h).elim
    · exact (fail_run h).elim
  · rename_i b off new
    split at h
    · rename_i sz hsz
      split at h
      · rename_i h1
        obtain rfl : sizeB new = sz := Nat.eq_of_beq_eq_true h1
        obtain ⟨cs, l', hcs, hk, _⟩ := RM.run_look h
        unfold storeO at hk
        split at hk
        · rename_i r cs' hset
          obtain rfl := pure_run hk
          obtain ⟨hr, hg⟩ := Tr.needs_get hg
          obtain rfl := leaf_get hg
          unfold putO at hset
          split at hset
          · rename_i cs2 hput
            simp only [Option.some.injEq, Prod.mk.injEq] at hset
            obtain ⟨_, rfl⟩ := hset
            obtain ⟨vs, rfl, hvs⟩ := hy
            refine hkey (vs := vs) hx hsz rfl hvs.length hcs hvs.oneCells (fun l hl => ?_)
            have hle : off + vs.length ≤ l.length := by
              rw [hl.length, hvs.length]; exact putB_le hput
            exact ⟨hle, putB_rel hput hl hvs⟩
          · cases hset
        · exact (fail_run hk).elim
      · exact (fail_run h).elim
    · exact (fail_run h).elim
  · exact (fail_run h).elim

end
end Go.Proofs.Ytgebgjhjegadpaa

/-
  The abstract machine: its operations, one by one, against the model's: equality, slices with their elements, functions, numbers converted.
-/
import Derived.Test.YtgebgjhjegadpaaAbN
namespace Go.Proofs.Ytgebgjhjegadpaa
open Go

section
variable {P : Program} {cx : Cx} {Wr : Nat → Prop} {β : Bm} {H : Nat → Option Blk} {D : Nat → Prop} {w : World}

theorem svO_run {o : Option (Tr SV)} {tr : Tr Out} {rd : List Nat} {out : Out} (h : (svO o).run H = some (tr, rd)) (hg : tr.get = some out) : ∃ t v, o = some t ∧ t.get = some v ∧ out = Out.val (.s v) := by
  unfold svO at h
  split at h
  · rename_i t
    obtain rfl := pure_run h
    obtain ⟨v, h1, h2⟩ := Tr.map_get hg
    exact ⟨t, v, rfl, h1, (Option.some.inj h2).symm⟩
  · exact (fail_run h).elim

theorem convI_run {k : IntKind} {v : SV} {src dst : TypeId} {t : Tr SV} {u : SV} {cv : Value} (hs : ∃ d, P.underlying src = some d) (hd : P.underlying dst = some (.int k)) (h : convI k v = some t) (hg : t.get = some u) (hv : RelS cx β v cv) :
    ∃ y, (Go.convert src dst cv).run P w = .ok y w ∧ RelS cx β u y := by
  obtain ⟨d, hsd⟩ := hs
  have hrun : ∀ (k0 : IntKind) (n : Int), (Go.convert src dst (.int k0 n)).run P w = .ok (.int k (k.wrap n)) w := by
    intro k0 n
    cases d <;> simp [Go.convert, run_underlying hsd, run_underlying hd, Conv.intToInt]
  unfold convI at h
  split at h
  · rename_i k0 n
    obtain ⟨rfl, hn⟩ := hv
    split at h
    · rename_i hle
      have hle := Nat.le_of_ble_eq_true hle
      cases h; cases hg
      exact ⟨_, hrun _ _, by rw [wrap_nat (by omega)], by omega⟩
    · split at h
      · rename_i hu
        cases h; cases hg
        refine ⟨_, hrun _ _, ?_, Nat.mod_lt _ (lim_pos _)⟩
        rw [wrap_u hu]; simp
      · cases h
        obtain ⟨h0, hg⟩ := Tr.need_get hg
        cases hg
        have h0 := of_decide_eq_true h0
        exact ⟨_, hrun _ _, by rw [wrap_nat h0], h0⟩
  · rename_i z
    obtain ⟨rfl, hz⟩ := hv
    split at h
    · rename_i hu
      cases h; cases hg
      have hp := lim_pos k
      have h1 : 0 ≤ z % (lim k : Int) := Int.emod_nonneg _ (by omega)
      have h2 : z % (lim k : Int) < (lim k : Int) := Int.emod_lt_of_pos _ (by omega)
      refine ⟨_, hrun _ _, ?_, by omega⟩
      rw [wrap_u hu, Int.toNat_of_nonneg h1]
    · split at h
      · cases h; cases hg
        exact ⟨_, hrun _ _, by rw [wrap_i hz.1 hz.2], hz⟩
      · cases h
  · cases h

theorem convSem_run {nx : Nat} {src dst : TypeId} {x : AV} {cv : Value} {tr : Tr Out} {rd : List Nat} {out : Out} (h : (convSem P nx src dst x).run H = some (tr, rd)) (hg : tr.get = some out) (hH : RelH cx Wr β H D w) (hf : Fresh D out) (hv : RelV cx β x cv) :
    ∃ y w', (Go.convert src dst cv).run P w = .ok y w' ∧ Post cx Wr β H D out y w' := by
  unfold convSem at h
  split at h
  · split at h
    · rename_i d hsd
      have hs : ∃ d, P.underlying src = some d := ⟨d, hsd⟩
      split at h
      · rename_i k hd
        obtain ⟨t, u, h1, h2, rfl⟩ := svO_run h hg
        obtain ⟨y, h3, h4⟩ := convI_run (w := w) hs hd h1 h2 hv
        exact ⟨y, w, h3, post_val hH (RelV.of1 (v := .s _) h4)⟩
      · rename_i hd
        obtain ⟨y, h1, h2⟩ := toStr_run hd h hg hH hv hs
        exact ⟨y, w, h1, h2⟩
      · rename_i e hd
        exact toBytes_run hd h hg hH hf hv hs
      · exact (fail_run h).elim
    · exact (fail_run h).elim
  · exact (fail_run h).elim

theorem avPtrs_rel : ∀ {vs : List AV} {ps : List (Nat × Nat)} {cvs : List Value}, avPtrs vs = some ps → vs.length = cvs.length → (∀ (j : Nat) (v : AV) (cv : Value), vs[j]? = some v → cvs[j]? = some cv → RelV cx β v cv) → RelPs β ps cvs
  | [], ps, cvs, h, hl, _ => by
    simp only [avPtrs, Option.some.injEq] at h
    subst h
    exact List.length_eq_zero_iff.1 (by simpa using hl.symm)
  | v :: vs, ps, cvs, h, hl, hr => by
    cases cvs with
    | nil => simp at hl
    | cons cv cvs =>
      unfold avPtrs at h
      split at h
      · rename_i heq; cases heq
      · rename_i b o vs' heq
        simp only [List.cons.injEq] at heq
        obtain ⟨rfl, rfl⟩ := heq
        split at h
        · rename_i r hr'
          cases h
          exact ⟨cv, cvs, rfl, hr 0 _ _ rfl rfl, avPtrs_rel hr' (by simpa using hl) (fun j v cv h1 h2 => hr (j + 1) v cv (by simpa using h1) (by simpa using h2))⟩
        · cases h
      · cases h

theorem makeFuncSem_run {f : Nat} {first cap : List AV} {cf cc : List Value} {tr : Tr Out} {rd : List Nat} {out : Out} (h : (makeFuncSem f first cap).run H = some (tr, rd)) (hg : tr.get = some out) (hH : RelH cx Wr β H D w)
    (h1 : first.length = cf.length) (h2 : cap.length = cc.length) (r1 : ∀ (j : Nat) (v : AV) (cv : Value), first[j]? = some v → cf[j]? = some cv → RelV cx β v cv) (r2 : ∀ (j : Nat) (v : AV) (cv : Value), cap[j]? = some v → cc[j]? = some cv → RelV cx β v cv) :
    Post cx Wr β H D out (.func (.func f) cf.toArray cc.toArray) w := by
  unfold makeFuncSem at h
  split at h
  · rename_i a ha
    split at h
    · rename_i c hc
      obtain rfl := pure_run h
      obtain rfl := oneT_get hg
      exact post_val hH (RelV.of1 (v := .s _) ⟨cf, cc, rfl, avPtrs_rel ha h1 r1, avPtrs_rel hc h2 r2⟩)
    · exact (fail_run h).elim
  · exact (fail_run h).elim

/-! Slices with their elements. -/
theorem range_rep {zs : Array Value} {n : Nat} (hz : zs.size ≠ 0) : ((Array.range (n * zs.size)).map (zs[· % zs.size]!)).toList = (List.replicate n zs.toList).flatten := by
  apply List.ext_getElem?
  intro i
  by_cases hi : i < n * zs.size
  · have e1 : (List.replicate n zs.toList).flatten[i]? = zs.toList[i % zs.size]? := by
      clear hz
      induction n generalizing i with
      | zero => simp at hi
      | succ n ih =>
        simp only [List.replicate_succ, List.flatten_cons]
        by_cases h : i < zs.size
        · rw [List.getElem?_append_left (by simpa using h), Nat.mod_eq_of_lt h]
        · rw [List.getElem?_append_right (by simp; omega)]
          simp only [Array.length_toList]
          rw [ih (i - zs.size) (by rw [Nat.add_mul] at hi; omega)]
          congr 1
          exact (Nat.mod_eq_sub_mod (by omega)).symm
    rw [e1]
    have hm : i % zs.size < zs.size := Nat.mod_lt _ (by omega)
    simp [hi, hm]
  · have : (List.replicate n zs.toList).flatten.length = n * zs.size := by simp
    rw [List.getElem?_eq_none (by simp; omega), List.getElem?_eq_none (by omega)]

theorem repB_rel {z : List Ch} {l : List Value} (h : RelC cx β z l) : ∀ n, RelC cx β (repB z n) (List.replicate n l).flatten
  | 0 => rfl
  | n + 1 => by simpa [repB, List.replicate_succ] using h.append (repB_rel h n)

theorem repB_size {z : List Ch} : ∀ n, sizeB (repB z n) = n * sizeB z
  | 0 => by simp [repB, sizeB]
  | n + 1 => by
    have h : ∀ a b : List Ch, sizeB (a ++ b) = sizeB a + sizeB b := by
      intro a b
      induction a with
      | nil => simp [sizeB]
      | cons c a ih => simp [sizeB, ih]; omega
    rw [repB, h, repB_size n, Nat.add_mul]; omega

theorem sizeB_app : ∀ a b : List Ch, sizeB (a ++ b) = sizeB a + sizeB b := by
  intro a b
  induction a with
  | nil => simp [sizeB]
  | cons c a ih => simp [sizeB, ih]; omega

theorem subB_size : ∀ {cs : List Ch} {off len : Nat} {r : List Ch}, subB off len cs = some r → sizeB r = len := by
  intro cs
  induction cs with
  | nil =>
    intro off len r h
    unfold subB at h
    split at h
    · rename_i h0; simp at h0; cases h; simp [sizeB, h0]
    · simp at h
  | cons c cs ih =>
    intro off len r h
    unfold subB at h
    split at h
    · rename_i h0; simp at h0; cases h; simp [sizeB, h0]
    · rename_i h0
      have hlen : len ≠ 0 := by intro e; rw [e] at h0; simp at h0
      simp only at h
      split at h
      · exact ih h
      · split at h
        · split at h
          · rename_i r' h'
            cases h
            simp only [sizeB, Ch.size, ih h']
            omega
          · cases h
        · rename_i k n xs _
          have hcut : ∀ m, (cutI k n xs off m).size = m := by
            intro m
            unfold cutI
            split
            · rename_i hb
              simp only [Bool.and_eq_true, Nat.beq_eq] at hb
              exact hb.2.symm
            · rfl
          split at h
          · cases h
            simp [sizeB, hcut]
          · rename_i hb
            have hb' : n - off < len := by
              rcases Nat.lt_or_ge (n - off) len with h | h
              · exact h
              · rw [Nat.ble_eq_true_of_le h] at hb; cases hb
            split at h
            · rename_i r' h'
              cases h
              simp only [sizeB, hcut, ih h']
              omega
            · cases h

theorem putB0_size {cs new r : List Ch} {off : Nat} (h : putB0 off new cs = some r) : sizeB r = sizeB cs := by
  have hle := putB0_le h
  unfold putB0 at h
  split at h
  · split at h
    · rename_i a b ha hb
      cases h
      rw [sizeB_app, sizeB_app, subB_size ha, subB_size hb]
      omega
    · cases h
  · cases h

theorem putB_size {cs new r : List Ch} {off : Nat} (h : putB off new cs = some r) : sizeB r = sizeB cs := by
  rcases putB_cases h with h | ⟨k, x, n, xs, rfl, rfl, ho, rfl⟩
  · exact putB0_size h
  · rfl

theorem fillB_size {f : Nat → Option (Nat × Nat)} : ∀ {ps : List (Nat × AV)} {cs r : List Ch}, fillB f ps cs = some r → sizeB r = sizeB cs := by
  intro ps
  induction ps with
  | nil => intro cs r h; cases h; rfl
  | cons p ps ih =>
    intro cs r h
    obtain ⟨i, v⟩ := p
    unfold fillB at h
    split at h
    · split at h
      · split at h
        · rename_i cs' hput
          rw [ih h, putB_size hput]
        · cases h
      · cases h
    · cases h

theorem rowO_run {nx n sz : Nat} {o : Option (List Ch)} {tr : Tr Out} {rd : List Nat} {out : Out} (h : (rowO nx n sz o).run H = some (tr, rd)) (hg : tr.get = some out) : ∃ cs, o = some cs ∧ out = ⟨.s (.sl .whole nx 0 n sz), [], [(nx, cs)]⟩ := by
  unfold rowO at h
  split at h
  · obtain rfl := pure_run h; exact ⟨_, rfl, leaf_get hg⟩
  · exact (fail_run h).elim

theorem onesI_rel {k : IntKind} : ∀ {ps : List (Nat × AV)} {j : Nat} {xs : List Nat} {vs : List (Nat × Value)}, onesI k ps j = some xs → ps.length = vs.length → (∀ (i : Nat) (p : Nat × AV), ps[i]? = some p → ∃ cv, vs[i]? = some (p.1, cv) ∧ RelV cx β p.2 cv) →
    (∀ x ∈ xs, x < lim k) ∧ xs.length = vs.length ∧ ∀ (i x : Nat), xs[i]? = some x → vs[i]? = some (j + i, .int k x) := by
  intro ps
  induction ps with
  | nil =>
    intro j xs vs h hl hp
    simp only [onesI, Option.some.injEq] at h
    subst h
    exact ⟨by simp, by simpa using hl, fun i x e => by simp at e⟩
  | cons p ps ih =>
    intro j xs vs h hl hp
    cases vs with
    | nil => simp at hl
    | cons q vs =>
      simp only [onesI] at h
      split at h
      · rename_i k' x hp2
        split at h
        · rename_i hb
          simp only [Bool.and_eq_true, decide_eq_true_eq, Nat.beq_eq] at hb
          obtain ⟨rfl, hpj⟩ := hb
          split at h
          · rename_i xs' hr
            cases h
            obtain ⟨cv, h1, h2⟩ := hp 0 _ rfl
            rw [hp2] at h2
            obtain ⟨rfl, hx⟩ := h2
            simp only [List.getElem?_cons_zero, Option.some.injEq] at h1
            subst h1
            obtain ⟨a1, a2, a3⟩ := ih hr (by simpa using hl) (fun i p e => by simpa using hp (i + 1) p (by simpa using e))
            refine ⟨by simpa [hx] using a1, by simpa using a2, fun n y e => ?_⟩
            cases n with
            | zero =>
              simp only [List.getElem?_cons_zero, Option.some.injEq] at e
              subst e; subst hpj; rfl
            | succ n =>
              have := a3 n y (by simpa using e)
              simp only [List.getElem?_cons_succ]
              rw [this]
              congr 2
              omega
          · cases h
        · cases h
      · cases h

/-- The model's filling of a row by one number after the other. -/
theorem fill_ones {g : Nat → Option (Nat × Nat)} (hg : ∀ i, g i = some (i * 1, 1)) : ∀ (vs : List (Nat × Value)) (j : Nat) (xs : List Value) (c : Array Value), (∀ (i : Nat) (v : Value), xs[i]? = some v → vs[i]? = some (j + i, v)) → xs.length = vs.length → (∀ v ∈ xs, v.oneCell' = true) → j + xs.length = c.size →
    ∃ c', Instr.fill g c vs = some c' ∧ c'.toList = c.toList.take j ++ xs := by
  intro vs
  induction vs with
  | nil =>
    intro j xs c _ hl _ hj
    obtain rfl : xs = [] := List.length_eq_zero_iff.1 (by simpa using hl)
    exact ⟨c, rfl, by simp at hj; simp [List.take_of_length_le (show c.toList.length ≤ j by simp; omega)]⟩
  | cons p vs ih =>
    intro j xs c hx hl h1 hj
    cases xs with
    | nil => simp at hl
    | cons x xs =>
      have := hx 0 x rfl
      simp only [List.getElem?_cons_zero, Nat.add_zero, Option.some.injEq] at this
      subst this
      have hc := oneCell_cells (h1 x (List.mem_cons_self))
      simp only [List.length_cons] at hj
      obtain ⟨c', h2, h3⟩ := ih (j + 1) xs (c.setIfInBounds j x) (fun i v e => by have := hx (i + 1) v (by simpa using e); simp only [List.getElem?_cons_succ] at this; rw [this]; congr 2; omega) (by simpa using hl) (fun v hv => h1 v (List.mem_cons_of_mem _ hv)) (by simp; omega)
      refine ⟨c', ?_, ?_⟩
      · simp only [Instr.fill, hg, hc, Nat.mul_one]
        have : ¬ ((#[x] : Array Value).size ≠ 1 ∨ j + (#[x] : Array Value).size > c.size) := by simp; omega
        rw [if_neg (by simpa using this)]
        simpa using h2
      · rw [h3]
        simp only [Array.toList_setIfInBounds]
        have hlt : j < c.toList.length := by simp; omega
        rw [List.set_eq_take_append_cons_drop, if_pos hlt, List.take_append]
        have hA : (c.toList.take j).length = j := by simp; omega
        rw [hA, List.take_of_length_le (by omega), show j + 1 - j = 1 by omega]
        simp

theorem buildSliceSem_run {t : TypeId} {nx n : Nat} {ps : List (Nat × AV)} {vs : Array (Nat × Value)} {tr : Tr Out} {rd : List Nat} {out : Out} (h : (buildSliceSem P nx t n ps).run H = some (tr, rd)) (hg : tr.get = some out) (hH : RelH cx Wr β H D w) (hf : Fresh D out)
    (hp : ∀ (j : Nat) (p : Nat × AV), ps[j]? = some p → ∃ cv, vs.toList[j]? = some (p.1, cv) ∧ RelV cx β p.2 cv) (hl : ps.length = vs.toList.length) :
    ∃ x w', (Instr.buildSlice t n vs).run P w = .ok x w' ∧ Post cx Wr β H D out x w' := by
  unfold buildSliceSem at h
  split at h
  · rename_i e hu
    split at h
    · exact (fail_run h).elim
    · rename_i hbig
      have hbig : n < 65536 := by
        rcases Nat.lt_or_ge n 65536 with h | h
        · exact h
        · rw [Nat.ble_eq_true_of_le h] at hbig; cases hbig
      split at h
      · rename_i hpn
        have hpn := Nat.eq_of_beq_eq_true hpn
        have hfin : ∀ (sz : Nat) (cs : List Ch) (c' : Array Value), out = ⟨.s (.sl .whole nx 0 n sz), [], [(nx, cs)]⟩ → RelC cx β cs c'.toList → c'.size = n * sz → (Instr.buildSlice t n vs).run P w = .ok (.slice (some ⟨w.heap.size, 0, none⟩) n n) (w.alloc (.cells c' e)) →
            ∃ x w', (Instr.buildSlice t n vs).run P w = .ok x w' ∧ Post cx Wr β H D out x w' := by
          intro sz cs c' ho hcs hsize hrun
          subst ho
          have hfn : ¬ D nx := hf nx (by simp [lkF_self])
          have h1 := hH.alloc hfn (T := e) hcs (c := c') (by simp) (fun i v hv => by simpa using hv)
          rw [hsize] at h1
          refine ⟨_, _, hrun, β.put nx ⟨w.heap.size, 0, n * sz⟩, Bm.ext_put (hH.none_of_fresh hfn), .inr ⟨⟨w.heap.size, 0, n * sz⟩, n, 0, by simp [Bm.put], rfl, fun _ => rfl, Nat.le_refl _, by simp⟩, ?_⟩
          rw [happ_new, dapp_new]
          exact h1
        have hrun : ∀ (i : TypeInfo) (z : Value) (c' : Array Value), P.info? e = some i → i.zero = some z → i.size ≤ 256 → Instr.fill (fun j => some (j * i.size, i.size)) (madeCells z.cells (n * i.size)) vs.toList = some c' →
            (Instr.buildSlice t n vs).run P w = .ok (.slice (some ⟨w.heap.size, 0, none⟩) n n) (w.alloc (.cells c' e)) := by
          intro i z c' hi hz hsm hfill
          have hle : ¬ (16777216 < n * i.size) := by
            have := Nat.mul_le_mul (Nat.le_of_lt_succ hbig) hsm
            omega
          by_cases h0 : n * i.size = 0
          · have e0 : ∀ f : Nat → Value, (Array.range 0).map f = #[] := fun f => by simp
            simp only [h0, madeCells, e0] at hfill
            simp only [Instr.buildSlice, Sem.run_bind, run_underlying hu, Result.andThen_ok, sizeOf, typeInfo, run_program, hi, Sem.run_pure, h0, e0, if_true]
            simp [hfill, newRow]
          · simp only [madeCells] at hfill
            simp [Instr.buildSlice, run_underlying hu, sizeOf, typeInfo, hi, hle, h0, zeroValue, hz, hfill, newRow]
        split at h
        · rename_i k hk
          obtain ⟨cs, hcs, ho⟩ := rowO_run h hg
          unfold onesO at hcs
          split at hcs
          · rename_i xs hxs
            cases hcs
            obtain ⟨a1, a2, a3⟩ := onesI_rel hxs hl hp
            obtain ⟨e', i, hu', hke, hi, hsz, hby, hz⟩ := elemInt_spec hk
            rw [hu] at hu'
            cases hu'
            have hvn : vs.toList.length = n := by omega
            obtain ⟨c', h2, h3⟩ := fill_ones (g := fun j => some (j * 1, 1)) (fun _ => rfl) vs.toList 0 (xs.map fun x : Nat => Value.int k x) (madeCells (Value.int k 0).cells (n * 1)) (fun i v e => by
              rw [List.getElem?_map, Option.map_eq_some_iff] at e
              obtain ⟨x, hx, rfl⟩ := e
              exact a3 i x hx) (by simpa using a2) (map_oneCell xs) (by rw [size_madeCells]; simp; omega)
            refine hfin 1 _ c' ho ?_ ?_ (hrun i _ c' hi hz (by omega) (by rw [hsz]; exact h2))
            · rw [h3]
              simpa using relC_one (cx := cx) (β := β) (k := k) (n := n) (xs := xs) (by omega) a1
            · have := congrArg List.length h3
              simp at this
              omega
          · cases hcs
        · split at h
          · rename_i z hz
            split at h
            · rename_i sz hsz
              split at h
              · rename_i h256
                have h256 := Nat.le_of_ble_eq_true h256
                obtain ⟨cs, hcs, ho⟩ := rowO_run h hg
                obtain ⟨i, zv, hi, hzv, hr⟩ := zeroB_info hz
                obtain ⟨i', hi', hsize⟩ := tySize_info hsz
                rw [hi] at hi'
                cases hi'
                have hzl : zv.cells.size = sizeB z := by have := (hr cx β).length; simpa using this
                split at hcs
                · rename_i hsz1
                  simp only [Bool.and_eq_true, Nat.beq_eq] at hsz1
                  obtain ⟨hz1, hz2⟩ := hsz1
                  have hz2 := Nat.le_of_ble_eq_true hz2
                  have hzs : zv.cells.size = sz := by omega
                  obtain ⟨c', h1, h2⟩ := fillB_run (cx := cx) (β := β) (g := fun i => some (i * sz, sz)) (fun i p hi => hi) ps vs.toList (repB z n) cs (madeCells zv.cells (n * sz)) hcs (by
                    have e2 : (madeCells zv.cells (n * sz)).toList = (List.replicate n zv.cells.toList).flatten := by rw [← hzs]; exact range_rep (by omega)
                    rw [e2]
                    exact repB_rel (hr cx β) n) hp hl
                  refine hfin sz cs c' ho h2 ?_ (hrun i zv c' hi hzv (by omega) (by rw [hsize]; exact h1))
                  have h3 := h2.length
                  have h4 := fillB_size hcs
                  simp only [Array.length_toList] at h3
                  rw [h3, h4, repB_size, hz1]
                · cases hcs
              · exact (fail_run h).elim
            · exact (fail_run h).elim
          · exact (fail_run h).elim
      · exact (fail_run h).elim
  · exact (fail_run h).elim

/-! Equality of arrays of numbers. -/
theorem all_getD : ∀ (xs ys : List Nat), xs.length = ys.length → ((List.range xs.length).all fun i => decide (xs.getD i 0 = ys.getD i 0)) = decide (xs = ys)
  | [], [], _ => rfl
  | [], _ :: _, h => by simp at h
  | _ :: _, [], h => by simp at h
  | x :: xs, y :: ys, h => by
    have ih := all_getD xs ys (by simpa using h)
    have e : (List.range (x :: xs).length) = 0 :: (List.range xs.length).map (· + 1) := by
      rw [List.length_cons, List.range_succ_eq_map]
    rw [e, List.all_cons, List.all_map, Bool.eq_iff_iff]
    have ih2 : ((List.range xs.length).all ((fun i => decide ((x :: xs).getD i 0 = (y :: ys).getD i 0)) ∘ (· + 1))) = decide (xs = ys) := ih
    rw [ih2]
    simp

theorem int_getD {k : IntKind} {xs : List Nat} {e : TypeId} {j : Nat} (he : P.underlying e = some (.int k)) (hj : j < xs.length) : (part e (xs.map fun x : Nat => Value.int k x).toArray (j * 1)).run P w = .ok (.int k ((xs.getD j 0 : Nat) : Int)) w := by
  have h1 : isAggT P e = some false := by simp [isAggT, he]
  refine getC_part h1 ?_
  simp [List.getD, List.getElem?_eq_getElem hj]

theorem run_equalIn_arr {t e : TypeId} {n : Nat} {k : IntKind} (ht : P.underlying t = some (.array n e)) (he : P.underlying e = some (.int k)) (hsz : tySize P e = some 1) (d : Nat) {xs ys : List Nat} (hx : xs.length = n) (hy : ys.length = n) :
    (Op.equalIn (d + 2) t (.agg (xs.map fun x : Nat => Value.int k x).toArray) (.agg (ys.map fun x : Nat => Value.int k x).toArray)).run P w = .ok (decide (xs = ys)) w := by
  rw [← all_getD xs ys (hx.trans hy.symm), hx, List.range_eq_range', Op.equalIn]
  simp only [Sem.run_bind, run_underlying ht, Result.andThen_ok, run_sizeOf' hsz, Std.Legacy.Range.forIn_eq_forIn_range', Std.Legacy.Range.size, Nat.sub_zero, Nat.add_sub_cancel, Nat.div_one]
  have hin : ∀ j ∈ List.range' 0 n 1, j < n := fun j hj => by simpa using (List.mem_range'_1.1 hj).2
  generalize List.range' 0 n 1 = js at hin ⊢
  induction js with
  | nil => simp
  | cons j js ih =>
    have hj : j < n := hin j (by simp)
    have hE : (Op.equalIn (d + 1) e (.int k ((xs.getD j 0 : Nat) : Int)) (.int k ((ys.getD j 0 : Nat) : Int))).run P w = .ok (decide (xs.getD j 0 = ys.getD j 0)) w := by
      rw [run_equalIn_int w d e k k _ _ he]
      congr 1
      rw [Bool.eq_iff_iff]
      simp only [beq_iff_eq, decide_eq_true_eq]
      omega
    simp only [List.forIn_cons, Sem.run_bind, int_getD he (hx ▸ hj : j < xs.length), int_getD he (hy ▸ hj : j < ys.length), hE, Result.andThen_ok, List.all_cons]
    cases decide (xs.getD j 0 = ys.getD j 0)
    · simp
    · simp only [Bool.not_true, Bool.false_eq_true, if_false, Sem.run_pure, Result.andThen_ok, Bool.true_and]
      exact ih fun i hi => hin i (by simp [hi])

theorem eqAgg_spec {t : TypeId} {a b : List Ch} {r : Bool} {la lb : List Value} (h : eqAgg P t a b = some r) (ha : RelC cx β a la) (hb : RelC cx β b lb) :
    P.eqGuardType P.depth t = false ∧ ∀ d, (Op.equalIn (d + 2) t (.agg la.toArray) (.agg lb.toArray)).run P w = .ok r w := by
  unfold eqAgg at h
  split at h
  · rename_i k n xs k' n' ys
    split at h
    · rename_i hk
      simp only [Bool.and_eq_true, decide_eq_true_eq, Nat.beq_eq] at hk
      obtain ⟨rfl, rfl⟩ := hk
      split at h
      · rename_i m e hu
        split at h
        · rename_i k'' hm he
          obtain rfl : n = m := Nat.eq_of_beq_eq_true hm
          split at h
          · rename_i hsz hkk hgu
            obtain rfl : k = k'' := of_decide_eq_true hkk
            cases h
            obtain ⟨h1, h2, l1, rfl, rfl⟩ := ha
            obtain ⟨h3, h4, l2, rfl, rfl⟩ := hb
            exact ⟨hgu, fun d => by simpa using run_equalIn_arr (P := P) (w := w) hu he hsz d h1 h3⟩
          · cases h
        · cases h
      · cases h
    · cases h
  · cases h

theorem eqO_run {op : BinOp} {o : Option Bool} {tr : Tr Out} {rd : List Nat} {out : Out} (h : (eqO op o).run H = some (tr, rd)) (hg : tr.get = some out) :
    ∃ t, o = some t ∧ (op = .eql ∧ out = Out.val (.s (.bool t)) ∨ op = .neq ∧ out = Out.val (.s (.bool (!t)))) := by
  unfold eqO at h
  split at h
  · rename_i t
    split at h
    · obtain rfl := pure_run h; exact ⟨t, rfl, .inl ⟨rfl, oneT_get hg⟩⟩
    · obtain rfl := pure_run h; exact ⟨t, rfl, .inr ⟨rfl, oneT_get hg⟩⟩
    · exact (fail_run h).elim
  · exact (fail_run h).elim

theorem guard_one {op : BinOp} {t : TypeId} {x y : Operand} {a b : Value} (h : ∀ c d, a = .agg c → b ≠ .agg d) (h2 : a ≠ .nilIface) : (eqGuard op t x y a b).run P w = .ok () w := by
  have key : (match a, b with
    | .nilIface, .nilIface => (if (x matches .const _) || (y matches .const _) then pure () else do
        if ← Op.eqGuardIn Op.maxDepth t a b then unsupported (.noEntry "binop/eql: two nil values of an interface type with methods, neither of them the literal nil") : Sem Unit)
    | .agg _, .agg _ => do
      if !(← program).eqGuardType (← program).depth t then return
      if ← Op.eqGuardIn Op.maxDepth t a b then unsupported (.noEntry "binop/eql: two nil values of an interface type with methods, in a part of a struct or an array")
    | _, _ => pure ()).run P w = .ok () w := by
    cases a <;> first | (exact absurd rfl h2) | rfl | (cases b <;> first | rfl | exact absurd rfl (h _ _ rfl))
  unfold eqGuard
  split
  · exact key
  · exact key
  · rfl

theorem binOpSem_run {m : SubMode} {op : BinOp} {t : TypeId} {x y : AV} {ox oy : Operand} {cvx cvy : Value} {tr : Tr Out} {rd : List Nat} {out : Out} (h : (binOpSem P m op t x y).run H = some (tr, rd)) (hg : tr.get = some out) (hH : RelH cx Wr β H D w) (hx : RelV cx β x cvx) (hy : RelV cx β y cvy) :
    ∃ z, (do Go.eqGuard op t ox oy cvx cvy; Go.binOp op t cvx cvy : Sem Value).run P w = .ok z w ∧ Post cx Wr β H D out z w := by
  unfold binOpSem at h
  split at h
  · rename_i a b
    have hx : cvx = .bool a := hx
    have hy : cvy = .bool b := hy
    subst hx hy
    split at h
    · rename_i hu
      obtain ⟨r, hr, ho⟩ := eqO_run h hg
      cases hr
      have hgd := guard_one (P := P) (w := w) (op := op) (t := t) (x := ox) (y := oy) (a := .bool a) (b := .bool b) (by simp) (by simp)
      have he : (Op.equal t (.bool a) (.bool b)).run P w = .ok (a == b) w := run_equalIn_bool' w 9999 t a b hu
      rcases ho with ⟨rfl, rfl⟩ | ⟨rfl, rfl⟩
      · exact ⟨.bool (a == b), by simp only [Sem.run_bind, hgd, Result.andThen_ok, Go.binOp, he, Sem.run_pure], post_val hH (RelV.of1 (v := .s _) rfl)⟩
      · exact ⟨.bool (!(a == b)), by simp only [Sem.run_bind, hgd, Result.andThen_ok, Go.binOp, he, Sem.run_pure], post_val hH (RelV.of1 (v := .s _) rfl)⟩
    · exact (fail_run h).elim
  · rename_i a b _
    obtain ⟨t', v, h1, h2, rfl⟩ := svO_run h hg
    obtain ⟨cv, h3, h4⟩ := binSem_run (P := P) (w := w) (ty := t) hx hy h1 h2
    have hgd : (eqGuard op t ox oy cvx cvy).run P w = .ok () w := by
      refine guard_one (fun c d e => ?_) (fun e => ?_)
      · subst e; have := RelS.oneCell hx; simp [Value.oneCell'] at this
      · subst e
        cases a <;> simp [RelV, RelV1, RelS, RelP, RelX] at hx <;> simp [binSem] at h1
    exact ⟨cv, by simp only [Sem.run_bind, hgd, Result.andThen_ok, h3], post_val hH (RelV.of1 (v := .s _) h4)⟩
  · rename_i a b
    obtain ⟨la, rfl, hla⟩ := hx
    obtain ⟨lb, rfl, hlb⟩ := hy
    obtain ⟨r, hr, ho⟩ := eqO_run h hg
    obtain ⟨hgt, he⟩ := eqAgg_spec (w := w) hr hla hlb
    have hgd := run_eqGuard_agg (P := P) w op t ox oy la.toArray lb.toArray hgt
    rcases ho with ⟨rfl, rfl⟩ | ⟨rfl, rfl⟩
    · exact ⟨.bool r, by simp only [Sem.run_bind, hgd, Result.andThen_ok, run_eql_struct, he 9998], post_val hH (RelV.of1 (v := .s _) rfl)⟩
    · exact ⟨.bool (!r), by simp only [Sem.run_bind, hgd, Result.andThen_ok, run_neq_struct, he 9998], post_val hH (RelV.of1 (v := .s _) rfl)⟩
  · exact (fail_run h).elim

end
end Go.Proofs.Ytgebgjhjegadpaa

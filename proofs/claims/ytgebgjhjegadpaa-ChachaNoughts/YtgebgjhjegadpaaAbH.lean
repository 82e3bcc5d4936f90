/-
  The abstract machine: its operations, one by one, against the model's: addresses, slices, strings.
-/
import Derived.Test.YtgebgjhjegadpaaAbG
namespace Go.Proofs.Ytgebgjhjegadpaa
open Go

section
variable {P : Program} {cx : Cx} {Wr : Nat → Prop} {β : Bm} {H : Nat → Option Blk} {D : Nat → Prop} {w : World}

theorem asIx_run {v : SV} {r : List Bool} {i : Nat} {cv : Value} (h : asIx v = some (r, i)) (hr : ∀ b ∈ r, b = true) (hv : RelS cx β v cv) (w : World) : ∃ k, cv = .int k (i : Int) ∧ (asIntOf cv).run P w = .ok (k, (i : Int)) w := by
  unfold asIx at h
  split at h
  · rename_i k n
    simp only [Option.some.injEq, Prod.mk.injEq] at h
    obtain ⟨_, rfl⟩ := h
    obtain ⟨rfl, _⟩ := hv
    exact ⟨_, rfl, rfl⟩
  · rename_i z
    simp only [Option.some.injEq, Prod.mk.injEq] at h
    obtain ⟨rfl, rfl⟩ := h
    obtain ⟨rfl, _⟩ := hv
    have h0 : 0 ≤ z := by simpa using hr
    rw [← Int.toNat_of_nonneg h0]
    exact ⟨_, rfl, rfl⟩
  · cases h

theorem withIx_run {i : AV} {f : List Bool → Nat → RM (Tr Out)} {tr : Tr Out} {rd : List Nat} {cv : Value} (h : (withIx i f).run H = some (tr, rd)) (hv : RelV cx β i cv) :
    ∃ r n, (f r n).run H = some (tr, rd) ∧ ((∀ b ∈ r, b = true) → ∀ w, ∃ k, cv = .int k (n : Int) ∧ (asIntOf cv).run P w = .ok (k, (n : Int)) w) := by
  unfold withIx at h
  split at h
  · split at h
    · rename_i r n hi
      exact ⟨r, n, h, fun hr w => asIx_run hi hr hv w⟩
    · exact (fail_run h).elim
  · exact (fail_run h).elim

theorem addOff_eq : ∀ (o x : Nat), addOff o x = o + x
  | 0, x => by simp [addOff]
  | o + 1, x => rfl

theorem mulSz_eq (i sz : Nat) : mulSz i sz = i * sz := by
  unfold mulSz
  split
  · simp
  · rfl

theorem addr_add' (b o n : Nat) : (⟨b, o, none⟩ : Addr).add n = ⟨b, o + n, none⟩ := addr_add b o n

theorem all_app {r s : List Bool} (h : ∀ b ∈ r ++ s, b = true) : (∀ b ∈ r, b = true) ∧ (∀ b ∈ s, b = true) :=
  ⟨fun b hb => h b (List.mem_append.2 (.inl hb)), fun b hb => h b (List.mem_append.2 (.inr hb))⟩

theorem run_indexAt_slice {t e : TypeId} {sz len cap i : Nat} {k : IntKind} {b o : Nat} (hu : P.underlying t = some (.slice e)) (hsz : tySize P e = some sz) (hi : i < len) :
    (Instr.indexAt t (.slice (some ⟨b, o, none⟩) len cap) (.int k (i : Int))).run P w = .ok (.pointer (some ⟨b, o + i * sz, none⟩)) w := by
  simp only [Instr.indexAt, asIntOf, Sem.run_bind, Sem.run_pure, Result.andThen_ok, run_underlying hu]
  rw [if_pos (by omega)]
  simp [run_sizeOf' hsz, addr_add]

theorem indexAddrSem_run {t : TypeId} {x i : AV} {tr : Tr Out} {rd : List Nat} {out : Out} {cvx cvi : Value} (h : (indexAddrSem P t x i).run H = some (tr, rd)) (hg : tr.get = some out) (hH : RelH cx Wr β H D w) (hx : RelV cx β x cvx) (hi : RelV cx β i cvi) :
    ∃ y, (Instr.indexAt t cvx cvi).run P w = .ok y w ∧ Post cx Wr β H D out y w := by
  replace h := withIx_run (P := P) h hi
  obtain ⟨r, n, h, hix⟩ := h
  split at h
  · rename_i b off
    split at h
    · rename_i m e hu
      split at h
      · rename_i sz hsz
        obtain rfl := pure_run h
        obtain ⟨hr, hg⟩ := Tr.needs_get hg
        obtain rfl := oneT_get hg
        obtain ⟨hr1, hr2⟩ := all_app hr
        have hlt : n < m := by simpa using hr2
        obtain ⟨k, rfl, _⟩ := hix hr1 w
        obtain ⟨q, hq, rfl⟩ := hx
        refine ⟨.pointer (some ⟨q.blk, q.base + off + n * sz, none⟩), ?_, post_val hH (RelV.of1 ⟨q, hq, by rw [addOff_eq, mulSz_eq, Nat.add_assoc]⟩)⟩
        simp only [Instr.indexAt, asIntOf, Instr.sureAddr, Sem.run_bind, Sem.run_pure, Result.andThen_ok, run_underlying hu]
        rw [if_pos (by omega)]
        simp [run_sizeOf' hsz, addr_add]
      · exact (fail_run h).elim
    · exact (fail_run h).elim
  · rename_i m b off len sz
    unfold ixSl at h
    split at h
    · rename_i e hu
      split at h
      · rename_i sz' hsz
        split at h
        · rename_i hss
          obtain rfl : sz = sz' := Nat.eq_of_beq_eq_true hss
          obtain rfl := pure_run h
          obtain ⟨hr, hg⟩ := Tr.needs_get hg
          obtain rfl := oneT_get hg
          obtain ⟨hr1, hr2⟩ := all_app hr
          have hlt : n < len := by simpa using hr2
          obtain ⟨k, rfl, _⟩ := hix hr1 w
          rcases hx with ⟨h0, _⟩ | ⟨q, cap, x, hq, rfl, hxa, hlc, hsz2⟩
          · omega
          · obtain rfl := hxa (by omega)
            exact ⟨_, run_indexAt_slice hu hsz hlt, post_val hH (RelV.of1 ⟨q, hq, by rw [addOff_eq, mulSz_eq, Nat.add_assoc]⟩)⟩
        · exact (fail_run h).elim
      · exact (fail_run h).elim
    · exact (fail_run h).elim
  · rename_i c
    unfold ixSl at h
    split at h
    · rename_i e hu
      split at h
      · rename_i sz' hsz
        split at h
        · rename_i hss
          obtain rfl := Nat.eq_of_beq_eq_true hss
          obtain rfl := pure_run h
          obtain ⟨hr, hg⟩ := Tr.needs_get hg
          obtain rfl := oneT_get hg
          obtain ⟨hr1, hr2⟩ := all_app hr
          have hlt : n < c.len := by simpa using hr2
          obtain ⟨k, rfl, _⟩ := hix hr1 w
          rcases hx with ⟨h0, _⟩ | ⟨b, o, cap, rfl, hlc, hrd⟩
          · omega
          · exact ⟨_, run_indexAt_slice hu hsz hlt, post_val hH (RelV.of1 ⟨b, o, rfl, hrd⟩)⟩
        · exact (fail_run h).elim
      · exact (fail_run h).elim
    · exact (fail_run h).elim
  · exact (fail_run h).elim

theorem getC_part {e : TypeId} {c : Array Value} {off : Nat} {cv : Value} (ha : isAggT P e = some false) (hc : c.toList[off]? = some cv) : (part e c off).run P w = .ok cv w := by
  have : c[off]? = some cv := by simpa using hc
  simp only [part, Sem.run_bind, run_isAgg' ha, Result.andThen_ok, Bool.false_eq_true, if_false, this, Sem.run_pure]

theorem subB_part {e : TypeId} {c : Array Value} {off sz : Nat} (ha : isAggT P e = some true) (hsz : tySize P e = some sz) : (part e c off).run P w = .ok (.agg ((c.toList.drop off).take sz).toArray) w := by
  simp only [part, Sem.run_bind, run_isAgg' ha, Result.andThen_ok, if_true, run_sizeOf' hsz, Sem.run_pure]
  congr 2
  apply Array.ext'
  simp only [Array.toList_extract, List.extract_eq_take_drop]
  congr 1
  omega

theorem partSem_run {e : TypeId} {off : Nat} {cs : List Ch} {c : Array Value} {tr : Tr Out} {rd : List Nat} {out : Out} (h : (partSem P e off cs).run H = some (tr, rd)) (hg : tr.get = some out) (hH : RelH cx Wr β H D w) (hc : RelC cx β cs c.toList) :
    ∃ y, (part e c off).run P w = .ok y w ∧ Post cx Wr β H D out y w := by
  unfold partSem at h
  split at h
  · rename_i ha
    split at h
    · rename_i sz hsz
      obtain ⟨r, hr, rfl⟩ := aggO_run h hg
      exact ⟨_, subB_part ha hsz, post_val hH (RelV.of1 ⟨_, rfl, subB_rel hr hc⟩)⟩
    · exact (fail_run h).elim
  · rename_i ha
    obtain ⟨r, v, hv, hr, rfl⟩ := cellO_run h hg
    obtain ⟨cv, h1, h2⟩ := getC_rel _ _ _ _ _ hv hr hc
    exact ⟨cv, getC_part ha h1, post_val hH h2⟩
  · exact (fail_run h).elim

theorem indexSem_run {t : TypeId} {x i : AV} {tr : Tr Out} {rd : List Nat} {out : Out} {cvx cvi : Value} (h : (indexSem P t x i).run H = some (tr, rd)) (hg : tr.get = some out) (hH : RelH cx Wr β H D w) (hx : RelV cx β x cvx) (hi : RelV cx β i cvi) :
    ∃ y, (Instr.index t cvx cvi).run P w = .ok y w ∧ Post cx Wr β H D out y w := by
  replace h := withIx_run (P := P) h hi
  obtain ⟨r, n, h, hix⟩ := h
  split at h
  · rename_i cs
    obtain ⟨l, rfl, hl⟩ := hx
    split at h
    · rename_i m e hu
      unfold ixArr at h
      split at h
      · rename_i ha
        split at h
        · rename_i sz hsz
          split at h
          · rename_i h1
            obtain rfl : sz = 1 := Nat.eq_of_beq_eq_true h1
            split at h
            · rename_i r' v hv
              obtain rfl := pure_run h
              obtain ⟨hr, hg⟩ := Tr.needs_get hg
              obtain rfl := oneT_get hg
              obtain ⟨hr1, hr2⟩ := all_app hr
              have hlt : n < m := by simpa using hr2 _ (List.mem_cons_self)
              obtain ⟨k, rfl, _⟩ := hix hr1 w
              obtain ⟨cv, h2, h3⟩ := getC_rel _ _ _ _ _ hv (fun b hb => hr2 b (List.mem_cons_of_mem _ hb)) hl
              refine ⟨cv, ?_, post_val hH h3⟩
              simp only [Instr.index, asIntOf, Sem.run_bind, Sem.run_pure, Result.andThen_ok, run_underlying hu]
              rw [if_pos (by omega)]
              simp only [Sem.run_bind, run_sizeOf' hsz, Result.andThen_ok, Nat.mul_one, Int.toNat_natCast]
              exact getC_part ha (by simpa using h2)
            · exact (fail_run h).elim
          · exact (fail_run h).elim
        · exact (fail_run h).elim
      · rename_i ha
        split at h
        · rename_i sz hsz
          split at h
          · rename_i cs' hs
            obtain rfl := pure_run h
            obtain ⟨hr, hg⟩ := Tr.needs_get hg
            obtain rfl := leaf_get hg
            obtain ⟨hr1, hr2⟩ := all_app hr
            have hlt : n < m := by simpa using hr2
            obtain ⟨k, rfl, _⟩ := hix hr1 w
            refine ⟨_, ?_, post_val hH (RelV.of1 ⟨_, rfl, subB_rel hs hl⟩)⟩
            simp only [Instr.index, asIntOf, Sem.run_bind, Sem.run_pure, Result.andThen_ok, run_underlying hu]
            rw [if_pos (by omega)]
            simp only [Sem.run_bind, run_sizeOf' hsz, Result.andThen_ok, Int.toNat_natCast]
            exact subB_part ha hsz
          · exact (fail_run h).elim
        · exact (fail_run h).elim
      · exact (fail_run h).elim
    · exact (fail_run h).elim
  · rename_i s
    obtain ⟨ba, rfl, rfl⟩ := hx
    split at h
    · rename_i hu
      obtain rfl := pure_run h
      obtain ⟨hr, hg⟩ := Tr.needs_get hg
      obtain rfl := oneT_get hg
      obtain ⟨hr1, hr2⟩ := all_app hr
      have hlt : n < ba.size := by
        have := hr2 _ (List.mem_singleton.2 rfl)
        simp only [List.length_map, Array.length_toList, decide_eq_true_eq] at this
        exact this
      obtain ⟨k, rfl, _⟩ := hix hr1 w
      have hget : ba[n]? = some ba[n] := by simp [hlt]
      refine ⟨.int .u8 ((ba[n].toNat : Nat) : Int), ?_, post_val hH (RelV.of1 (v := .s _) ⟨?_, ?_⟩)⟩
      · simp only [Instr.index, asIntOf, Sem.run_bind, Sem.run_pure, Result.andThen_ok, run_underlying hu]
        rw [if_pos (by omega)]
        simp only [Int.toNat_natCast, hget, Sem.run_pure]
      · congr 1
        rw [List.getD, List.getElem?_map]
        have : ba.data.toList[n]? = some ba[n] := by
          have h1 : n < ba.data.toList.length := by simpa using hlt
          rw [List.getElem?_eq_getElem h1]; rfl
        rw [this]; rfl
      · rw [List.getD, List.getElem?_map]
        cases ba.data.toList[n]? with
        | none => exact lim_pos _
        | some y => exact y.toNat_lt
    · exact (fail_run h).elim
  · exact (fail_run h).elim

theorem fieldAddrSem_run {t : TypeId} {x : AV} {f : Nat} {tr : Tr Out} {rd : List Nat} {out : Out} {cvx : Value} (h : (fieldAddrSem P t f x).run H = some (tr, rd)) (hg : tr.get = some out) (hH : RelH cx Wr β H D w) (hx : RelV cx β x cvx) :
    ∃ y, (Instr.fieldAt t cvx f).run P w = .ok y w ∧ Post cx Wr β H D out y w := by
  unfold fieldAddrSem at h
  split at h
  · rename_i b off
    split at h
    · rename_i fs hu
      split at h
      · rename_i o sz hp
        obtain rfl := pure_run h
        obtain rfl := oneT_get hg
        obtain ⟨q, hq, rfl⟩ := hx
        unfold placeS at hp
        split at hp
        · rename_i fd hfd
          split at hp
          · rename_i sz' hsz
            simp only [Option.some.injEq, Prod.mk.injEq] at hp
            obtain ⟨rfl, rfl⟩ := hp
            refine ⟨.pointer (some ⟨q.blk, q.base + off + fd.offset, none⟩), ?_, post_val hH (RelV.of1 ⟨q, hq, by rw [addOff_eq, Nat.add_assoc]⟩)⟩
            simp only [Instr.fieldAt, Sem.run_bind, run_underlying hu, Result.andThen_ok, hfd, Instr.sureAddr, Sem.run_pure, fieldPlace, run_sizeOf' hsz, addr_add]
            simp
          · cases hp
        · cases hp
      · exact (fail_run h).elim
    · exact (fail_run h).elim
  · exact (fail_run h).elim

theorem fieldSem_run {t : TypeId} {x : AV} {f : Nat} {tr : Tr Out} {rd : List Nat} {out : Out} {cvx : Value} (h : (fieldSem P t f x).run H = some (tr, rd)) (hg : tr.get = some out) (hH : RelH cx Wr β H D w) (hx : RelV cx β x cvx) :
    ∃ y, (Instr.field t cvx f).run P w = .ok y w ∧ Post cx Wr β H D out y w := by
  unfold fieldSem at h
  split at h
  · rename_i cs
    obtain ⟨l, rfl, hl⟩ := hx
    split at h
    · rename_i fs hu
      split at h
      · rename_i fd hfd
        obtain ⟨y, h1, h2⟩ := partSem_run (P := P) (c := l.toArray) h hg hH (by simpa using hl)
        refine ⟨y, ?_, h2⟩
        simp only [Instr.field, Sem.run_bind, run_underlying hu, Result.andThen_ok, hfd, asAgg, Sem.run_pure, h1]
      · exact (fail_run h).elim
    · exact (fail_run h).elim
  · exact (fail_run h).elim

theorem RelL1.get : ∀ {vs : List AV} {l : List Value} {i : Nat} {v : AV}, RelL1 cx β vs l → vs[i]? = some v → ∃ cv, l[i]? = some cv ∧ RelV1 cx β v cv
  | [], l, i, v, h, e => by simp at e
  | u :: us, l, 0, v, ⟨cv, l', e1, h1, h2⟩, e => by
    simp only [List.getElem?_cons_zero, Option.some.injEq] at e
    subst e
    exact ⟨cv, by rw [e1]; rfl, h1⟩
  | u :: us, l, i + 1, v, ⟨cv, l', e1, h1, h2⟩, e => by
    obtain ⟨cv', h3, h4⟩ := RelL1.get (i := i) h2 (by simpa using e)
    exact ⟨cv', by rw [e1]; simpa using h3, h4⟩

theorem extractSem_run {x : AV} {i : Nat} {tr : Tr Out} {rd : List Nat} {out : Out} {cvx : Value} (h : (extractSem i x).run H = some (tr, rd)) (hg : tr.get = some out) (hH : RelH cx Wr β H D w) (hx : RelV cx β x cvx) :
    ∃ y, (Instr.extract cvx i).run P w = .ok y w ∧ Post cx Wr β H D out y w := by
  unfold extractSem at h
  split at h
  · rename_i vs
    obtain ⟨l, rfl, hl⟩ := hx
    split at h
    · rename_i v hv
      obtain rfl := pure_run h
      obtain rfl := leaf_get hg
      obtain ⟨cv, h1, h2⟩ := hl.get hv
      refine ⟨cv, ?_, post_val hH (RelV.of1 h2)⟩
      simp [Instr.extract, h1]
    · exact (fail_run h).elim
  · exact (fail_run h).elim

theorem nilCheckSem_run {x : AV} {tr : Tr Out} {rd : List Nat} {out : Out} {cvx : Value} (h : (nilCheckSem x).run H = some (tr, rd)) (hg : tr.get = some out) (hH : RelH cx Wr β H D w) (hx : RelV cx β x cvx) :
    (∃ a, cvx = .pointer (some a)) ∧ Post cx Wr β H D out cvx w := by
  unfold nilCheckSem at h
  split at h
  · obtain rfl := pure_run h
    obtain rfl := oneT_get hg
    obtain ⟨q, hq, rfl⟩ := hx
    exact ⟨⟨_, rfl⟩, post_val hH (RelV.of1 ⟨q, hq, rfl⟩)⟩
  · exact (fail_run h).elim

end
end Go.Proofs.Ytgebgjhjegadpaa

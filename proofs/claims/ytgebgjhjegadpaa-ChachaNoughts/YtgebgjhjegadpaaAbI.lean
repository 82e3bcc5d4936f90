/-
  The abstract machine: its operations, one by one, against the model's: slice expressions, strings, made rows, append, copy.
-/
import Derived.Test.YtgebgjhjegadpaaAbH
namespace Go.Proofs.Ytgebgjhjegadpaa
open Go

section
variable {P : Program} {cx : Cx} {Wr : Nat → Prop} {β : Bm} {H : Nat → Option Blk} {D : Nat → Prop} {w : World}

/-! Slice expressions. -/
def RelO (cx : Cx) (β : Bm) : Option AV → Option Value → Prop
  | none, none => True
  | some v, some cv => RelV cx β v cv
  | _, _ => False

theorem bound_run {v : SV} {r : List Bool} {i y : Nat} {cv : Value} {code : BoundsCode} (h : asIx v = some (r, i)) (hr : ∀ b ∈ r, b = true) (hv : RelS cx β v cv) (hi : i ≤ y) (w : World) : (Instr.sliceBound cv y code).run P w = .ok i w := by
  obtain ⟨k, rfl, _⟩ := asIx_run (P := P) h hr hv w
  simp only [Instr.sliceBound, asIntOf, Sem.run_bind, Sem.run_pure, Result.andThen_ok]
  rw [if_pos (by omega)]
  simp

theorem bounds_run {isS : Bool} {n cap : Nat} {lo hi : Option AV} {clo chi : Option Value} {r : List Bool} {l h : Option Nat} (hb : bounds n lo hi = some (r, l, h)) (hr : ∀ b ∈ r, b = true) (hlo : RelO cx β lo clo) (hhi : RelO cx β hi chi) (hn : n ≤ cap) (w : World) :
    (Instr.sliceBounds isS n cap clo chi none).run P w = .ok (l.getD 0, h.getD n, cap) w ∧ l.getD 0 ≤ h.getD n ∧ h.getD n ≤ n := by
  unfold bounds at hb
  cases hi with
  | none =>
    cases chi with
    | some _ => exact hhi.elim
    | none =>
      cases lo with
      | none =>
        cases clo with
        | some _ => exact hlo.elim
        | none =>
          simp only [Option.some.injEq, Prod.mk.injEq] at hb
          obtain ⟨_, rfl, rfl⟩ := hb
          exact ⟨by simp [Instr.sliceBounds], by simp, by simp⟩
      | some lv =>
        cases clo with
        | none => exact hlo.elim
        | some cl =>
          cases lv with
          | s lv =>
            simp only at hb
            split at hb
            · rename_i r1 l1 h1
              simp only [Option.some.injEq, Prod.mk.injEq] at hb
              obtain ⟨rfl, rfl, rfl⟩ := hb
              obtain ⟨hr1, hr2⟩ := all_app hr
              have hle : l1 ≤ n := by simpa using hr2
              refine ⟨?_, by simpa using hle, by simp⟩
              simp only [Instr.sliceBounds, Sem.run_bind, Sem.run_pure, Result.andThen_ok, bound_run h1 hr1 hlo hle, Option.getD_some, Option.getD_none]
            · cases hb
          | _ => cases hb
  | some hv =>
    cases chi with
    | none => exact hhi.elim
    | some ch =>
      cases hv with
      | s hv =>
        simp only at hb
        split at hb
        · rename_i rh h1 hh1
          cases lo with
          | none =>
            cases clo with
            | some _ => exact hlo.elim
            | none =>
              simp only [Option.some.injEq, Prod.mk.injEq] at hb
              obtain ⟨rfl, rfl, rfl⟩ := hb
              obtain ⟨hr1, hr2⟩ := all_app hr
              have hle : h1 ≤ n := by simpa using hr2
              refine ⟨?_, by simp, by simpa using hle⟩
              simp only [Instr.sliceBounds, Sem.run_bind, Sem.run_pure, Result.andThen_ok, bound_run hh1 hr1 hhi (Nat.le_trans hle hn), Option.getD_some, Option.getD_none]
          | some lv =>
            cases clo with
            | none => exact hlo.elim
            | some cl =>
              cases lv with
              | s lv =>
                simp only at hb
                split at hb
                · rename_i r1 l1 hl1
                  simp only [Option.some.injEq, Prod.mk.injEq] at hb
                  obtain ⟨rfl, rfl, rfl⟩ := hb
                  obtain ⟨hra, hrd⟩ := all_app hr
                  obtain ⟨hrb, hrc⟩ := all_app hra
                  obtain ⟨hre, hrf⟩ := all_app hrb
                  have hle : h1 ≤ n := by simpa using hrf
                  have hll : l1 ≤ h1 := by simpa using hrd
                  refine ⟨?_, by simpa using hll, by simpa using hle⟩
                  simp only [Instr.sliceBounds, Sem.run_bind, Sem.run_pure, Result.andThen_ok, bound_run hh1 hre hhi (Nat.le_trans hle hn), bound_run hl1 hrc hlo hll, Option.getD_some]
                · cases hb
              | _ => cases hb
        · cases hb
      | _ => cases hb

theorem cutO_run {f : Option Nat → Option Nat → SV} {o : Option (List Bool × Option Nat × Option Nat)} {tr : Tr Out} {rd : List Nat} {out : Out} (h : (cutO f o).run H = some (tr, rd)) (hg : tr.get = some out) :
    ∃ r l h, o = some (r, l, h) ∧ (∀ b ∈ r, b = true) ∧ out = Out.val (.s (f l h)) := by
  unfold cutO at h
  split at h
  · obtain rfl := pure_run h
    obtain ⟨h1, h2⟩ := Tr.needs_get hg
    exact ⟨_, _, _, rfl, h1, oneT_get h2⟩
  · exact (fail_run h).elim

theorem lenOfCut_eq {n : Nat} {l h : Option Nat} : lenOfCut n l h = h.getD n - l.getD 0 := by
  cases l <;> cases h <;> rfl

/-- What a cut out of a row of variables says. -/
theorem cutAt_rel {m : LK} {q : Pl} {b off n cap sz x : Nat} {l h : Option Nat} (hq : β b = some q) (hx : cap ≠ 0 → x = q.base + off) (hcap : n ≤ cap) (hsz : off + cap * sz ≤ q.size) (hl : l.getD 0 ≤ h.getD n) (hh : h.getD n ≤ n) :
    RelS cx β (cutAt m b off n sz l h) (.slice (some (if cap = l.getD 0 then ⟨q.blk, x, none⟩ else ⟨q.blk, x + l.getD 0 * sz, none⟩)) (h.getD n - l.getD 0) (cap - l.getD 0)) := by
  refine .inr ⟨q, cap - l.getD 0, if cap = l.getD 0 then x else x + l.getD 0 * sz, hq, ?_, ?_, ?_, ?_⟩
  · rw [lenOfCut_eq]
    split <;> rfl
  · intro h0
    rw [if_neg (by omega), hx (by omega)]
    cases l with
    | none => simp
    | some l => simp [addOff_eq, mulSz_eq]; omega
  · rw [lenOfCut_eq]; omega
  · cases l with
    | none => simpa using hsz
    | some l =>
      simp only [addOff_eq, mulSz_eq, Option.getD_some] at *
      rw [Nat.sub_mul]
      have : l * sz ≤ cap * sz := Nat.mul_le_mul_right _ (by omega)
      omega

theorem RdI.cut2 {k : IntKind} {xs : List Nat} {b o : Nat} (h : RdI cx k xs b o) (l hi : Option Nat) : RdI cx k (dropN (takeN xs hi) l) b (o + l.getD 0) := by
  intro i x e
  have hh : xs[l.getD 0 + i]? = some x := by
    have e1 : (takeN xs hi)[l.getD 0 + i]? = some x := by
      cases l with
      | none => simpa [dropN] using e
      | some l => simpa [dropN] using e
    cases hi with
    | none => exact e1
    | some hi =>
      simp only [takeN, List.getElem?_take] at e1
      split at e1
      · exact e1
      · cases e1
  have := h _ x hh
  rwa [← Nat.add_assoc] at this

theorem getNN {xs : List (List Nat)} {l hi : Option Nat} {i : Nat} {x : List Nat} (e : (dropNN (takeNN xs hi) l)[i]? = some x) : xs[l.getD 0 + i]? = some x := by
  have e1 : (takeNN xs hi)[l.getD 0 + i]? = some x := by
    cases l with
    | none => simpa [dropNN] using e
    | some l => simpa [dropNN] using e
  cases hi with
  | none => exact e1
  | some hi =>
    simp only [takeNN, List.getElem?_take] at e1
    split at e1
    · exact e1
    · cases e1

theorem XC.cut_rel {c : XC} {b o : Nat} (l hi : Option Nat) (h : RdX cx c b o) : RdX cx (c.cut l hi) b (o + l.getD 0 * c.sz) := by
  cases c with
  | ints k xs => simp only [XC.sz, Nat.mul_one]; exact RdI.cut2 h l hi
  | arrs k n xss =>
    intro i xs e
    obtain ⟨h1, h2⟩ := h _ _ (getNN e)
    refine ⟨h1, ?_⟩
    simp only [XC.sz]
    rwa [Nat.add_mul, ← Nat.add_assoc] at h2
  | bss xss =>
    intro i xs e
    have := h _ _ (getNN e)
    simp only [XC.sz, Nat.mul_one]
    rwa [← Nat.add_assoc] at this

theorem XC.cut_len {c : XC} {l hi : Option Nat} (h1 : l.getD 0 ≤ hi.getD c.len) (h2 : hi.getD c.len ≤ c.len) : (c.cut l hi).len = hi.getD c.len - l.getD 0 := by
  cases c <;> cases l <;> cases hi <;> simp_all [XC.cut, XC.len, dropN, takeN, dropNN, takeNN]

theorem XC.cut_sz {c : XC} {l hi : Option Nat} : (c.cut l hi).sz = c.sz := by cases c <;> rfl

theorem run_slice_at {t e : TypeId} {sz len cap l h : Nat} {b x : Nat} {clo chi : Option Value} (hu : P.underlying t = some (.slice e)) (hsz : tySize P e = some sz)
    (hb : (Instr.sliceBounds true len cap clo chi none).run P w = .ok (l, h, cap) w) :
    (Instr.sliceAt t (.slice (some ⟨b, x, none⟩) len cap) clo chi none).run P w = .ok (.slice (some (if cap = l then ⟨b, x, none⟩ else ⟨b, x + l * sz, none⟩)) (h - l) (cap - l)) w := by
  simp only [Instr.sliceAt, Sem.run_bind, run_underlying hu, Result.andThen_ok, Instr.slice, hb, run_sizeOf' hsz, Sem.run_pure]
  split <;> simp [addr_add]

theorem run_slice_nil {t e : TypeId} {sz : Nat} {clo chi : Option Value} (hu : P.underlying t = some (.slice e)) (hsz : tySize P e = some sz)
    (hb : (Instr.sliceBounds true 0 0 clo chi none).run P w = .ok (0, 0, 0) w) :
    (Instr.sliceAt t (.slice none 0 0) clo chi none).run P w = .ok (.slice none 0 0) w := by
  simp only [Instr.sliceAt, Sem.run_bind, run_underlying hu, Result.andThen_ok, Instr.slice, hb, run_sizeOf' hsz, Sem.run_pure, if_true]

theorem sliceSl_run {t : TypeId} {sz len : Nat} {f : Option Nat → Option Nat → SV} {lo hi : Option AV} {tr : Tr Out} {rd : List Nat} {out : Out} (h : (sliceSl P t sz len f lo hi).run H = some (tr, rd)) (hg : tr.get = some out) :
    ∃ e r l h, P.underlying t = some (.slice e) ∧ tySize P e = some sz ∧ bounds len lo hi = some (r, l, h) ∧ (∀ b ∈ r, b = true) ∧ out = Out.val (.s (f l h)) := by
  unfold sliceSl at h
  split at h
  · rename_i e hu
    split at h
    · rename_i sz' hsz
      split at h
      · rename_i hss
        obtain rfl := Nat.eq_of_beq_eq_true hss
        obtain ⟨r, l, h1, h2, h3, h4⟩ := cutO_run h hg
        exact ⟨e, r, l, h1, hu, hsz, h2, h3, h4⟩
      · exact (fail_run h).elim
    · exact (fail_run h).elim
  · exact (fail_run h).elim

theorem extract_bytes (ba : ByteArray) (l h : Nat) : (ba.extract l h).data.toList = (ba.data.toList.take h).drop l := by
  simp [ByteArray.data_extract, List.extract_eq_take_drop, List.drop_take]

theorem str_cut (ba : ByteArray) (l h : Option Nat) : dropN (takeN (ba.data.toList.map (·.toNat)) h) l = (ba.extract (l.getD 0) (h.getD ba.size)).data.toList.map (·.toNat) := by
  rw [extract_bytes]
  have hs : ba.data.toList.take ba.size = ba.data.toList := List.take_of_length_le (by simp)
  cases l <;> cases h <;> simp [dropN, takeN, List.map_take, List.map_drop, hs]

theorem sliceSem_run {t : TypeId} {x : AV} {lo hi : Option AV} {clo chi : Option Value} {tr : Tr Out} {rd : List Nat} {out : Out} {cvx : Value} (h : (sliceSem P t lo hi x).run H = some (tr, rd)) (hg : tr.get = some out) (hH : RelH cx Wr β H D w) (hx : RelV cx β x cvx)
    (hlo : RelO cx β lo clo) (hhi : RelO cx β hi chi) : ∃ y, (Instr.sliceAt t cvx clo chi none).run P w = .ok y w ∧ Post cx Wr β H D out y w := by
  unfold sliceSem at h
  split at h
  · rename_i b off
    unfold slicePtr at h
    split at h
    · rename_i n e hu
      split at h
      · rename_i sz hsz
        obtain ⟨cs, l', hcs, hk, _⟩ := RM.run_look h
        split at hk
        · rename_i hble
          have hble := Nat.le_of_ble_eq_true hble
          obtain ⟨r, l, hh, hb, hr, rfl⟩ := cutO_run hk hg
          obtain ⟨q, hq, rfl⟩ := hx
          obtain ⟨c, T, fr, _, _, _, ll, hl1, hl2, _⟩ := hH.held _ _ _ hq hcs
          have hlen := hl1.length
          obtain ⟨h1, h2, h3⟩ := bounds_run (P := P) (isS := false) hb hr hlo hhi (Nat.le_refl n) w
          refine ⟨_, ?_, post_val hH (RelV.of1 (cutAt_rel (cx := cx) (m := arrK off (n * sz) (sizeB cs)) (x := q.base + off) hq (fun _ => rfl) (Nat.le_refl n) (by omega) h2 h3))⟩
          simp only [Instr.sliceAt, Sem.run_bind, run_underlying hu, Result.andThen_ok, Instr.sureAddr, Sem.run_pure, h1, run_sizeOf' hsz]
          split <;> simp [addr_add]
        · exact (fail_run hk).elim
      · exact (fail_run h).elim
    · exact (fail_run h).elim
  · rename_i m b off len sz
    obtain ⟨e, r, l, hh, hu, hsz, hb, hr, rfl⟩ := sliceSl_run h hg
    rcases hx with ⟨rfl, rfl⟩ | ⟨q, cap, x, hq, rfl, hxa, hlc, hsz2⟩
    · obtain ⟨h1, h2, h3⟩ := bounds_run (P := P) (isS := true) hb hr hlo hhi (Nat.le_refl 0) w
      have e1 : hh.getD 0 = 0 := by omega
      have e2 : l.getD 0 = 0 := by omega
      rw [e1, e2] at h1
      refine ⟨_, run_slice_nil hu hsz h1, post_val hH (RelV.of1 (v := .s _) (.inl ⟨?_, rfl⟩))⟩
      rw [lenOfCut_eq]; omega
    · obtain ⟨h1, h2, h3⟩ := bounds_run (P := P) (isS := true) hb hr hlo hhi hlc w
      exact ⟨_, run_slice_at hu hsz h1, post_val hH (RelV.of1 (cutAt_rel (cx := cx) (m := m) hq hxa hlc hsz2 h2 h3))⟩
  · rename_i c
    obtain ⟨e, r, l, hh, hu, hsz, hb, hr, rfl⟩ := sliceSl_run h hg
    rcases hx with ⟨h0, rfl⟩ | ⟨b, o, cap, rfl, hlc, hrd⟩
    · rw [h0] at hb
      obtain ⟨h1, h2, h3⟩ := bounds_run (P := P) (isS := true) hb hr hlo hhi (Nat.le_refl 0) w
      have e1 : hh.getD 0 = 0 := by omega
      have e2 : l.getD 0 = 0 := by omega
      rw [e1, e2] at h1
      refine ⟨_, run_slice_nil hu hsz h1, post_val hH (RelV.of1 (v := .s _) (.inl ⟨?_, rfl⟩))⟩
      rw [XC.cut_len (by rw [h0]; omega) (by rw [h0]; omega), h0]; omega
    · obtain ⟨h1, h2, h3⟩ := bounds_run (P := P) (isS := true) hb hr hlo hhi hlc w
      refine ⟨_, run_slice_at hu hsz h1, post_val hH (RelV.of1 (v := .s _) (.inr ⟨b, if cap = l.getD 0 then o else o + l.getD 0 * c.sz, cap - l.getD 0, ?_, ?_, ?_⟩))⟩
      · rw [XC.cut_len h2 h3]
        split <;> rfl
      · rw [XC.cut_len h2 h3]; omega
      · split
        · rename_i hc
          have hl0 : (c.cut l hh).len = 0 := by rw [XC.cut_len h2 h3]; omega
          cases hcc : c.cut l hh with
          | ints k xs =>
            rw [hcc] at hl0
            intro i x e
            simp only [XC.len, List.length_eq_zero_iff] at hl0
            subst hl0; simp at e
          | arrs k n xss =>
            rw [hcc] at hl0
            intro i x e
            simp only [XC.len, List.length_eq_zero_iff] at hl0
            subst hl0; simp at e
          | bss xss =>
            rw [hcc] at hl0
            intro i x e
            simp only [XC.len, List.length_eq_zero_iff] at hl0
            subst hl0; simp at e
        · exact XC.cut_rel l hh hrd
  · rename_i s
    split at h
    · rename_i hu
      obtain ⟨r, l, hh, hb, hr, rfl⟩ := cutO_run h hg
      obtain ⟨ba, rfl, rfl⟩ := hx
      have hs : (ba.data.toList.map (·.toNat)).length = ba.size := by simp
      rw [hs] at hb
      obtain ⟨h1, h2, h3⟩ := bounds_run (P := P) (isS := false) hb hr hlo hhi (Nat.le_refl _) w
      refine ⟨.string (ba.extract (l.getD 0) (hh.getD ba.size)), ?_, post_val hH (RelV.of1 (v := .s _) ⟨_, rfl, str_cut ba l hh⟩)⟩
      simp only [Instr.sliceAt, Sem.run_bind, run_underlying hu, Result.andThen_ok, Instr.slice, Option.isSome_none, Bool.false_eq_true, if_false, h1, Sem.run_pure]
    · exact (fail_run h).elim
  · exact (fail_run h).elim

theorem toArrSem_run {t : TypeId} {x : AV} {tr : Tr Out} {rd : List Nat} {out : Out} {cvx : Value} (h : (toArrSem P t x).run H = some (tr, rd)) (hg : tr.get = some out) (hH : RelH cx Wr β H D w) (hx : RelV cx β x cvx) :
    ∃ y, (Instr.arrayAt t cvx).run P w = .ok y w ∧ Post cx Wr β H D out y w := by
  unfold toArrSem at h
  split at h
  · rename_i m b off len sz
    split at h
    · rename_i n e hu
      obtain rfl := pure_run h
      obtain ⟨h0, hg⟩ := Tr.need_get hg
      obtain rfl := oneT_get hg
      have h0 := of_decide_eq_true h0
      rcases hx with ⟨h1, _⟩ | ⟨q, cap, x, hq, rfl, hxa, hlc, hsz2⟩
      · omega
      · obtain rfl := hxa (by omega)
        refine ⟨_, ?_, post_val hH (RelV.of1 (v := .s _) ⟨q, hq, rfl⟩)⟩
        simp only [Instr.arrayAt, Sem.run_bind, run_underlying hu, Result.andThen_ok]
        rw [if_neg (by omega)]
        rfl
    · exact (fail_run h).elim
  · rename_i k xs
    split at h
    · rename_i n e hu
      obtain rfl := pure_run h
      obtain ⟨h0, hg⟩ := Tr.need_get hg
      obtain rfl := oneT_get hg
      have h0 := of_decide_eq_true h0
      rcases hx with ⟨h1, _⟩ | ⟨b, o, cap, rfl, hlc, hrd⟩
      · simp only [XC.len] at h1; omega
      · refine ⟨.pointer (some ⟨b, o, none⟩), ?_, post_val hH (RelV.of1 (v := .s _) ⟨b, o, by simp, hrd⟩)⟩
        simp only [Instr.arrayAt, Sem.run_bind, run_underlying hu, Result.andThen_ok]
        rw [if_neg (show ¬ ((XC.ints k xs).len < n.succ) by simp only [XC.len]; omega)]; rfl
    · exact (fail_run h).elim
  · exact (fail_run h).elim

end
end Go.Proofs.Ytgebgjhjegadpaa

/-
  The abstract machine: its operations, one by one, against the model's.
-/
import Derived.Test.YtgebgjhjegadpaaAbD
namespace Go.Proofs.Ytgebgjhjegadpaa
open Go

section
variable {P : Program} {cx : Cx} {Wr : Nat → Prop} {β : Bm} {H : Nat → Option Blk} {D : Nat → Prop} {w : World}

theorem shN_run {op : BinOp} {k ky : IntKind} {a s : Nat} {t : Tr SV} {v : SV} (ha : a < lim k) (h : shN op k a s = some t) (hg : t.get = some v) :
    ∃ cv, (Op.shift op k (a : Int) ky (s : Int)).run P w = .ok cv w ∧ ∀ (cx : Cx) (β : Bm), RelS cx β v cv := by
  have hneg : ¬ ((s : Int) < 0) := by omega
  unfold shN at h
  split at h
  · split at h
    · rename_i hu
      cases h; cases hg
      have hl := lim_bits hu
      refine ⟨.int k ((a * 2 ^ s % lim k : Nat) : Int), ?_, fun cx β => ⟨rfl, Nat.mod_lt _ (lim_pos k)⟩⟩
      simp only [Op.shift, hneg, if_false, Sem.run_pure, wrap_u hu]
      congr 2
      have e : a * 2 ^ min s k.bits % lim k = a * 2 ^ s % lim k := by
        rcases Nat.le_total s k.bits with h1 | h1
        · rw [Nat.min_eq_left h1]
        · rw [Nat.min_eq_right h1, hl]
          obtain ⟨d, rfl⟩ := Nat.le.dest h1
          rw [Nat.pow_add, ← Nat.mul_assoc, Nat.mul_mod_left, Nat.mul_right_comm, Nat.mul_mod_left]
      rw [← e]
      simp
    · split at h
      · cases h
        obtain ⟨h0, hg⟩ := Tr.need_get hg
        cases hg
        simp only [Bool.and_eq_true, decide_eq_true_eq] at h0
        obtain ⟨h1, h2⟩ := h0
        refine ⟨.int .i64 ((a * 2 ^ s : Nat) : Int), ?_, fun cx β => ⟨rfl, h2⟩⟩
        simp only [Op.shift, hneg, if_false, Sem.run_pure]
        have e : min ((s : Int).toNat) IntKind.i64.bits = s := by simp [IntKind.bits]; omega
        rw [e]
        have e2 : (a : Int) * 2 ^ s = ((a * 2 ^ s : Nat) : Int) := by simp
        rw [e2]
        generalize a * 2 ^ s = q at *
        rw [wrap_i (by omega) (by omega)]
      · cases h
  · have key : ∀ (b : Nat), a < 2 ^ b → (a : Int).fdiv (2 ^ min ((s : Int).toNat) b) = ((a / 2 ^ s : Nat) : Int) := by
      intro b hb
      rw [Int.fdiv_eq_ediv_of_nonneg _ (Int.pow_nonneg (by omega))]
      rcases Nat.le_total s b with h1 | h1
      · rw [show min ((s : Int).toNat) b = s by simp; omega]; simp
      · rw [show min ((s : Int).toNat) b = b by simp; omega]
        rw [Nat.div_eq_of_lt (Nat.lt_of_lt_of_le hb (Nat.pow_le_pow_right (by omega) h1))]
        have := Nat.div_eq_of_lt hb
        have e : (a : Int) / 2 ^ b = ((a / 2 ^ b : Nat) : Int) := by simp
        rw [e, this]
    split at h
    · rename_i hu
      cases h; cases hg
      refine ⟨.int k ((a / 2 ^ s : Nat) : Int), ?_, fun cx β => ⟨rfl, Nat.lt_of_le_of_lt (Nat.div_le_self _ _) ha⟩⟩
      simp only [Op.shift, hneg, if_false, Sem.run_pure]
      rw [key k.bits (lim_bits hu ▸ ha)]
    · split at h
      · cases h; cases hg
        refine ⟨.int .i64 ((a / 2 ^ s : Nat) : Int), ?_, fun cx β => ⟨rfl, Nat.lt_of_le_of_lt (Nat.div_le_self _ _) ha⟩⟩
        simp only [Op.shift, hneg, if_false, Sem.run_pure]
        rw [key IntKind.i64.bits (Nat.lt_of_lt_of_le ha (by decide))]
      · cases h
  · cases h

theorem binOp_sh {op : BinOp} (h : isSh op = true) (t : TypeId) (k ky : IntKind) (a b : Int) : Go.binOp op t (.int k a) (.int ky b) = Op.shift op k a ky b := by
  cases op <;> simp [isSh] at h <;> rfl

theorem binOp_t {op : BinOp} (h : isSh op = false) (t : TypeId) (k ky : IntKind) (a b : Int) : Go.binOp op t (.int k a) (.int ky b) = Go.binOp op 0 (.int k a) (.int ky b) := by
  cases op <;> simp [isSh] at h <;> rfl

theorem bytes_inj {a b : ByteArray} (h : a.data.toList.map (·.toNat) = b.data.toList.map (·.toNat)) : a = b := by
  have : a.data.toList = b.data.toList := by
    have hinj : ∀ (l m : List UInt8), l.map (·.toNat) = m.map (·.toNat) → l = m := by
      intro l
      induction l with
      | nil => intro m h; cases m <;> simp at h; rfl
      | cons x l ih =>
        intro m h
        cases m with
        | nil => simp at h
        | cons y m =>
          simp only [List.map_cons, List.cons.injEq] at h
          rw [UInt8.toNat.inj h.1, ih m h.2]
    exact hinj _ _ h
  cases a; cases b
  congr 1
  exact Array.toList_inj.1 this

theorem str_eq {a b : ByteArray} : (a.toList == b.toList) = decide (a.data.toList.map (·.toNat) = b.data.toList.map (·.toNat)) := by
  rw [ByteArray.toList_eq, ByteArray.toList_eq, Bool.eq_iff_iff]
  simp only [beq_iff_eq, decide_eq_true_eq]
  exact ⟨fun h => by rw [h], fun h => by rw [bytes_inj h]⟩

theorem binSem_run {m : SubMode} {op : BinOp} {ty : TypeId} {x y : SV} {cx1 cy1 : Value} {t : Tr SV} {v : SV} (hx : RelS cx β x cx1) (hy : RelS cx β y cy1) (h : binSem m op x y = some t) (hg : t.get = some v) :
    ∃ cv, (Go.binOp op ty cx1 cy1).run P w = .ok cv w ∧ RelS cx β v cv := by
  unfold binSem at h
  split at h
  · rename_i k a k' b
    obtain ⟨rfl, ha⟩ := hx
    obtain ⟨rfl, hb⟩ := hy
    split at h
    · rename_i hs
      rw [binOp_sh hs]
      obtain ⟨cv, h1, h2⟩ := shN_run (P := P) (w := w) (ky := k') ha h hg
      exact ⟨cv, h1, h2 _ _⟩
    · rename_i hs
      rw [binOp_t hs]
      split at h
      · rename_i hk
        obtain rfl : k = k' := of_decide_eq_true hk
        split at h
        · rename_i hu
          obtain ⟨cv, h1, h2⟩ := binU_run (P := P) (w := w) hu ha hb h hg hs
          exact ⟨cv, h1, h2 _ _⟩
        · split at h
          · obtain ⟨cv, h1, h2⟩ := binI_run (P := P) (w := w) ha hb h hg hs
            exact ⟨cv, h1, h2 _ _⟩
          · cases h
      · cases h
  · rename_i k a z
    obtain ⟨rfl, ha⟩ := hx
    obtain ⟨rfl, hz⟩ := hy
    split at h
    · rename_i hs
      rw [binOp_sh hs]
      split at h
      · rename_i t' ht
        cases h
        obtain ⟨h0, hg⟩ := Tr.need_get hg
        have h0 : 0 ≤ z := of_decide_eq_true h0
        obtain ⟨cv, h1, h2⟩ := shN_run (P := P) (w := w) (ky := .i64) ha ht hg
        rw [Int.toNat_of_nonneg h0] at h1
        exact ⟨cv, h1, h2 _ _⟩
      · cases h
    · rename_i hs
      rw [binOp_t hs]
      split at h
      · have ha' : a < 9223372036854775808 := ha
        obtain ⟨cv, h1, h2⟩ := binZ_run (P := P) (w := w) ⟨by omega, by omega⟩ hz h hg hs
        exact ⟨cv, h1, h2 _ _⟩
      · cases h
  · rename_i z k b
    obtain ⟨rfl, hz⟩ := hx
    obtain ⟨rfl, hb⟩ := hy
    split at h
    · cases h
    · rename_i hs
      rw [binOp_t hs]
      split at h
      · have hb' : b < 9223372036854775808 := hb
        obtain ⟨cv, h1, h2⟩ := binZ_run (P := P) (w := w) hz ⟨by omega, by omega⟩ h hg hs
        exact ⟨cv, h1, h2 _ _⟩
      · cases h
  · rename_i y z
    obtain ⟨rfl, hy'⟩ := hx
    obtain ⟨rfl, hz⟩ := hy
    have hs : isSh op = false := by
      cases op <;> first | rfl | simp [binZ, cmpZ] at h
    rw [binOp_t hs]
    obtain ⟨cv, h1, h2⟩ := binZ_run (P := P) (w := w) hy' hz h hg hs
    exact ⟨cv, h1, h2 _ _⟩
  · rename_i a b
    obtain ⟨ba, rfl, rfl⟩ := hx
    obtain ⟨bb, rfl, rfl⟩ := hy
    split at h
    · cases h
      obtain ⟨h0, hg⟩ := Tr.need_get hg
      cases hg
      have h0 := of_decide_eq_true h0
      simp only [List.length_map, Array.length_toList] at h0
      refine ⟨.string (ba ++ bb), ?_, ba ++ bb, rfl, by simp⟩
      have : ¬ (((ba.size + bb.size : Nat) : Int) > IntKind.i64.max) := by
        simp only [IntKind.max, IntKind.signed, IntKind.bits, if_true]
        have e1 : ba.size = ba.data.size := rfl
        have e2 : bb.size = bb.data.size := rfl
        omega
      simp only [Go.binOp, Op.stringOp]
      rw [if_neg this]; rfl
    · cases h; cases hg
      refine ⟨_, rfl, ?_⟩
      simp only [RelS, Value.bool.injEq]
      exact str_eq
    · cases h; cases hg
      refine ⟨_, rfl, ?_⟩
      simp only [RelS, Value.bool.injEq]
      rw [str_eq]
    · cases h
  · cases h

end
end Go.Proofs.Ytgebgjhjegadpaa

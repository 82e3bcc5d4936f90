/-
  The abstract machine: what its operations say of the model's: numbers, reads, addresses.
-/
import Derived.Test.YtgebgjhjegadpaaAbC
import Derived.Laws.StructEq
import Derived.Laws.BytesString
import Derived.Laws.MakeOwn
namespace Go.Proofs.Ytgebgjhjegadpaa
open Go

theorem Tr.needs_get {α : Type} {out : α} {t : Tr α} : ∀ {rs : List Bool}, (Tr.needs rs t).get = some out → (∀ b ∈ rs, b = true) ∧ t.get = some out
  | [], h => ⟨by simp, h⟩
  | c :: cs, h => by
    simp only [Tr.needs, Tr.get] at h
    cases c with
    | false => simp at h
    | true =>
      simp only [cond_true] at h
      obtain ⟨h1, h2⟩ := Tr.needs_get h
      exact ⟨by simpa using h1, h2⟩

theorem Tr.need_get {α : Type} {out : α} {t : Tr α} {c : Bool} (h : (Tr.need c t).get = some out) : c = true ∧ t.get = some out := by
  cases c with
  | false => simp [Tr.get] at h
  | true => exact ⟨rfl, by simpa [Tr.get] using h⟩

theorem Tr.map_get {α β : Type} {f : α → Option β} {b : β} : ∀ {t : Tr α}, (t.map f).get = some b → ∃ a, t.get = some a ∧ f a = some b
  | .leaf a, h => by
    unfold Tr.map at h
    split at h
    · rename_i b' hb; simp only [Tr.get, Option.some.injEq] at h; subst h; exact ⟨a, rfl, hb⟩
    · simp [Tr.get] at h
  | .need c t, h => by
    have h' : (Tr.need c (t.map f)).get = some b := h
    obtain ⟨hc, h''⟩ := Tr.need_get h'
    obtain ⟨a, h1, h2⟩ := Tr.map_get (t := t) h''
    exact ⟨a, by simp [Tr.get, h1, hc], h2⟩
  | .br c x y, h => by
    cases c with
    | true => simp only [Tr.map, Tr.get, cond_true] at h; obtain ⟨a, h1, h2⟩ := Tr.map_get h; exact ⟨a, by simp [Tr.get, h1], h2⟩
    | false => simp only [Tr.map, Tr.get, cond_false] at h; obtain ⟨a, h1, h2⟩ := Tr.map_get h; exact ⟨a, by simp [Tr.get, h1], h2⟩
  | .fail, h => by simp [Tr.map, Tr.get] at h

theorem RM.run_bind {α β : Type} {H : Nat → Option Blk} {f : α → RM β} : ∀ {m : RM α} {b : β} {rd : List Nat}, (m.bind f).run H = some (b, rd) →
    ∃ a l1 l2, m.run H = some (a, l1) ∧ (f a).run H = some (b, l2) ∧ rd = l1 ++ l2
  | .pure a, b, rd, h => ⟨a, [], rd, rfl, h, rfl⟩
  | .fail, b, rd, h => by simp [RM.bind, RM.run] at h
  | .look n k, b, rd, h => by
    simp only [RM.bind, RM.run] at h
    cases hn : H n with
    | none => simp [hn] at h
    | some c =>
      simp only [hn] at h
      cases hk : ((k c).bind f).run H with
      | none => simp [hk] at h
      | some r =>
        obtain ⟨b', l⟩ := r
        simp only [hk, Option.some.injEq, Prod.mk.injEq] at h
        obtain ⟨rfl, rfl⟩ := h
        obtain ⟨a, l1, l2, h1, h2, rfl⟩ := RM.run_bind hk
        exact ⟨a, n :: l1, l2, by simp [RM.run, hn, h1], h2, rfl⟩

theorem RM.run_look {α : Type} {H : Nat → Option Blk} {k : Blk → RM α} {n : Nat} {b : α} {rd : List Nat} (h : (RM.look n k).run H = some (b, rd)) :
    ∃ c l, H n = some c ∧ (k c).run H = some (b, l) ∧ rd = n :: l := by
  simp only [RM.run] at h
  cases hn : H n with
  | none => simp [hn] at h
  | some c =>
    simp only [hn] at h
    cases hk : (k c).run H with
    | none => simp [hk] at h
    | some r =>
      obtain ⟨b', l⟩ := r
      simp only [hk, Option.some.injEq, Prod.mk.injEq] at h
      obtain ⟨rfl, rfl⟩ := h
      exact ⟨c, l, rfl, hk, rfl⟩

theorem RM.run_agree {α : Type} {H H' : Nat → Option Blk} : ∀ {m : RM α} {a : α} {rd : List Nat}, m.run H = some (a, rd) → (∀ n ∈ rd, H' n = H n) → m.run H' = some (a, rd)
  | .pure a, _, _, h, _ => h
  | .fail, _, _, h, _ => by simp [RM.run] at h
  | .look n k, a, rd, h, hr => by
    obtain ⟨c, l, hn, hk, rfl⟩ := RM.run_look h
    have := RM.run_agree hk (fun m hm => hr m (List.mem_cons_of_mem _ hm))
    simp [RM.run, hr n (List.mem_cons_self), hn, this]

/-! Numbers. -/
theorem lim_pos (k : IntKind) : 0 < lim k := by cases k <;> decide

theorem wrap_u {k : IntKind} (h : isU k = true) (z : Int) : k.wrap z = z % (lim k : Int) := by
  cases k <;> simp [isU] at h <;> simp [IntKind.wrap, IntKind.signed, IntKind.bits, lim]

theorem wrap_i {z : Int} (h1 : -9223372036854775808 ≤ z) (h2 : z < 9223372036854775808) : IntKind.i64.wrap z = z := by
  rw [IntKind.wrap_i64]; omega

theorem lim_bits {k : IntKind} (h : isU k = true) : lim k = 2 ^ k.bits := by cases k <;> simp [isU] at h <;> rfl

theorem wrap_nat {k : IntKind} {x : Nat} (h : x < lim k) : k.wrap (x : Int) = x := by
  cases k <;> simp only [lim] at h <;> simp only [IntKind.wrap, IntKind.signed, IntKind.bits] <;> simp <;> omega

section
variable {P : Program} {w : World}

theorem bits_run (op : BinOp) (k : IntKind) (a b c : Nat) (ha : a < 2 ^ k.bits) (hb : b < 2 ^ k.bits) (hc : c < lim k)
    (h : op = .and ∧ c = a &&& b ∨ op = .or ∧ c = a ||| b ∨ op = .xor ∧ c = a ^^^ b) : (Op.intBits op k (a : Int) (b : Int)).run P w = .ok (.int k c) w := by
  have e1 : BitVec.ofInt k.bits (a : Int) = BitVec.ofNat k.bits a := BitVec.ofInt_natCast ..
  have e2 : BitVec.ofInt k.bits (b : Int) = BitVec.ofNat k.bits b := BitVec.ofInt_natCast ..
  rcases h with ⟨rfl, rfl⟩ | ⟨rfl, rfl⟩ | ⟨rfl, rfl⟩ <;>
    simp only [Op.intBits, e1, e2, Sem.run_pure] <;>
    simp [Nat.mod_eq_of_lt ha, Nat.mod_eq_of_lt hb, wrap_nat hc]

theorem cmpN_run {op : BinOp} {a b : Nat} {v : SV} (h : cmpN op a b = some v) : ∃ cv, (Op.intCmp op (a : Int) (b : Int)).run P w = .ok cv w ∧ ∀ (cx : Cx) (β : Bm), RelS cx β v cv := by
  unfold cmpN at h
  split at h <;> first | (cases h; done) | (cases h; refine ⟨_, rfl, fun cx β => congrArg Value.bool ?_⟩; first | rfl | (rw [Bool.eq_iff_iff]; simp <;> omega))

theorem cmpZ_run {op : BinOp} {a b : Int} {v : SV} (h : cmpZ op a b = some v) : ∃ cv, (Op.intCmp op a b).run P w = .ok cv w ∧ ∀ (cx : Cx) (β : Bm), RelS cx β v cv := by
  unfold cmpZ at h
  split at h <;> first | (cases h; done) | (cases h; refine ⟨_, rfl, fun cx β => congrArg Value.bool ?_⟩; first | rfl | (rw [Bool.eq_iff_iff]; simp <;> omega))

theorem or_lt_lim {k : IntKind} (h : isU k = true) {a b : Nat} (ha : a < lim k) (hb : b < lim k) : a ||| b < lim k := by
  rw [lim_bits h] at *; exact Nat.or_lt_two_pow ha hb
theorem xor_lt_lim {k : IntKind} (h : isU k = true) {a b : Nat} (ha : a < lim k) (hb : b < lim k) : a ^^^ b < lim k := by
  rw [lim_bits h] at *; exact Nat.xor_lt_two_pow ha hb

theorem tdiv_nat (a b : Nat) : (a : Int).tdiv (b : Int) = ((a / b : Nat) : Int) := rfl
theorem tmod_nat (a b : Nat) : (a : Int).tmod (b : Int) = ((a % b : Nat) : Int) := rfl

theorem binU_run {op : BinOp} {k : IntKind} {a b : Nat} {t : Tr SV} {v : SV} (hk : isU k = true) (ha : a < lim k) (hb : b < lim k) (h : binU op k a b = some t) (hg : t.get = some v) (hsh : isSh op = false) :
    ∃ cv, (Go.binOp op 0 (.int k a) (.int k b)).run P w = .ok cv w ∧ ∀ (cx : Cx) (β : Bm), RelS cx β v cv := by
  have hl := lim_pos k
  have hlb := lim_bits hk
  have key : ∀ (m : Sem Value) (x : Nat), (Go.binOp op 0 (.int k a) (.int k b)) = m → m.run P w = .ok (.int k x) w → x < lim k → v = .nat k x → ∃ cv, (Go.binOp op 0 (.int k a) (.int k b)).run P w = .ok cv w ∧ ∀ (cx : Cx) (β : Bm), RelS cx β v cv := by
    intro m x e1 e2 hx e3
    subst e1 e3
    exact ⟨_, e2, fun cx β => ⟨rfl, hx⟩⟩
  unfold binU at h
  split at h
  · cases h; cases hg
    exact key _ ((a + b) % lim k) rfl (by simp [Go.binOp, Op.intArith, wrap_u hk]) (Nat.mod_lt _ hl) rfl
  · cases h; cases hg
    refine key _ ((a + lim k - b) % lim k) rfl ?_ (Nat.mod_lt _ hl) rfl
    simp only [Go.binOp, Op.intArith, wrap_u hk, ne_eq, not_true, if_false, Sem.run_pure]
    congr 2
    rw [Int.natCast_emod, Int.natCast_sub (by omega), Int.natCast_add]
    rw [show ((a : Int) + (lim k : Int) - (b : Int)) = ((a : Int) - (b : Int)) + (lim k : Int) by omega, Int.add_emod_right]
  · cases h; cases hg
    exact key _ (a * b % lim k) rfl (by simp [Go.binOp, Op.intArith, wrap_u hk]) (Nat.mod_lt _ hl) rfl
  · cases h
    obtain ⟨h0, hg⟩ := Tr.need_get hg
    cases hg
    have h0 : 0 < b := of_decide_eq_true h0
    have hlt : a / b < lim k := Nat.lt_of_le_of_lt (Nat.div_le_self _ _) ha
    refine key _ (a / b) rfl ?_ hlt rfl
    simp only [Go.binOp, Op.intDiv, ne_eq, not_true, if_false, tdiv_nat, wrap_nat hlt]
    rw [if_neg (by omega)]; rfl
  · cases h
    obtain ⟨h0, hg⟩ := Tr.need_get hg
    cases hg
    have h0 : 0 < b := of_decide_eq_true h0
    refine key _ (a % b) rfl ?_ (Nat.lt_of_le_of_lt (Nat.mod_le _ _) ha) rfl
    simp only [Go.binOp, Op.intDiv, ne_eq, not_true, if_false, tmod_nat]
    rw [if_neg (by omega)]; rfl
  · cases h; cases hg
    have hx : a &&& b < lim k := Nat.lt_of_le_of_lt Nat.and_le_left ha
    refine key _ (a &&& b) rfl ?_ hx rfl
    simp only [Go.binOp, ne_eq, not_true, if_false]
    exact bits_run _ k a b _ (hlb ▸ ha) (hlb ▸ hb) hx (.inl ⟨rfl, rfl⟩)
  · cases h; cases hg
    refine key _ (a ||| b) rfl ?_ (or_lt_lim hk ha hb) rfl
    simp only [Go.binOp, ne_eq, not_true, if_false]
    exact bits_run _ k a b _ (hlb ▸ ha) (hlb ▸ hb) (or_lt_lim hk ha hb) (.inr (.inl ⟨rfl, rfl⟩))
  · cases h; cases hg
    refine key _ (a ^^^ b) rfl ?_ (xor_lt_lim hk ha hb) rfl
    simp only [Go.binOp, ne_eq, not_true, if_false]
    exact bits_run _ k a b _ (hlb ▸ ha) (hlb ▸ hb) (xor_lt_lim hk ha hb) (.inr (.inr ⟨rfl, rfl⟩))
  · split at h
    · rename_i v' hv
      cases h; cases hg
      obtain ⟨cv, h1, h2⟩ := cmpN_run (P := P) (w := w) hv
      refine ⟨cv, ?_, h2⟩
      cases op <;> simp [cmpN] at hv <;> simpa [Go.binOp] using h1
    · cases h

theorem isI_lim : lim .i64 = 9223372036854775808 := rfl

theorem subS_rel : ∀ (a b : Nat), a < 9223372036854775808 → b < 9223372036854775808 → ∀ (cx : Cx) (β : Bm), RelS cx β (subS a b) (.int .i64 ((a : Int) - (b : Int)))
  | a, 0, ha, _, cx, β => by simp only [subS, RelS, isI_lim]; exact ⟨by simp, ha⟩
  | 0, b + 1, _, hb, cx, β => by simp only [subS, RelS]; exact ⟨congrArg _ (by omega), by omega, by omega⟩
  | a + 1, b + 1, ha, hb, cx, β => by
    have := subS_rel a b (by omega) (by omega) cx β
    rw [show ((a + 1 : Nat) : Int) - ((b + 1 : Nat) : Int) = (a : Int) - (b : Int) by omega]
    simpa only [subS] using this

theorem binI_run {m : SubMode} {op : BinOp} {a b : Nat} {t : Tr SV} {v : SV} (ha : a < 9223372036854775808) (hb : b < 9223372036854775808) (h : binI m op a b = some t) (hg : t.get = some v) (hsh : isSh op = false) :
    ∃ cv, (Go.binOp op 0 (.int .i64 a) (.int .i64 b)).run P w = .ok cv w ∧ ∀ (cx : Cx) (β : Bm), RelS cx β v cv := by
  have key : ∀ (x : Nat), (Go.binOp op 0 (.int .i64 a) (.int .i64 b)).run P w = .ok (.int .i64 x) w → x < 9223372036854775808 → v = .nat .i64 x → ∃ cv, (Go.binOp op 0 (.int .i64 a) (.int .i64 b)).run P w = .ok cv w ∧ ∀ (cx : Cx) (β : Bm), RelS cx β v cv := by
    intro x e2 hx e3
    subst e3
    exact ⟨_, e2, fun cx β => ⟨rfl, hx⟩⟩
  have hab : IntKind.i64.bits = 64 := rfl
  unfold binI at h
  split at h
  · cases h
    obtain ⟨h0, hg⟩ := Tr.need_get hg
    cases hg
    have h0 : a + b < 9223372036854775808 := of_decide_eq_true h0
    refine key (a + b) ?_ h0 rfl
    simp only [Go.binOp, Op.intArith, ne_eq, not_true, if_false, Sem.run_pure]
    rw [wrap_i (by omega) (by omega)]; simp
  · have hs : (Go.binOp .sub 0 (.int .i64 a) (.int .i64 b)).run P w = .ok (.int .i64 ((a : Int) - (b : Int))) w := by
      simp only [Go.binOp, Op.intArith, ne_eq, not_true, if_false, Sem.run_pure]
      rw [wrap_i (by omega) (by omega)]
    split at h
    · cases h
      obtain ⟨h0, hg⟩ := Tr.need_get hg
      cases hg
      have h0 : b ≤ a := of_decide_eq_true h0
      exact key (a - b) (by rw [hs, Int.natCast_sub h0]) (by omega) rfl
    · cases h; cases hg
      exact ⟨_, hs, fun cx β => subS_rel a b ha hb cx β⟩
    · cases h; cases hg
      exact ⟨_, hs, fun cx β => ⟨rfl, by omega, by omega⟩⟩
  · cases h
    obtain ⟨h0, hg⟩ := Tr.need_get hg
    cases hg
    have h0 : a * b < 9223372036854775808 := of_decide_eq_true h0
    refine key (a * b) ?_ h0 rfl
    simp only [Go.binOp, Op.intArith, ne_eq, not_true, if_false, Sem.run_pure]
    rw [← Int.natCast_mul, wrap_i (by omega) (by omega)]
  · cases h
    obtain ⟨h0, hg⟩ := Tr.need_get hg
    cases hg
    have h0 : 0 < b := of_decide_eq_true h0
    have hlt : a / b < 9223372036854775808 := Nat.lt_of_le_of_lt (Nat.div_le_self _ _) ha
    refine key (a / b) ?_ hlt rfl
    simp only [Go.binOp, Op.intDiv, ne_eq, not_true, if_false, tdiv_nat]
    generalize a / b = q at *
    rw [if_neg (by omega), wrap_i (by omega) (by omega)]; rfl
  · cases h
    obtain ⟨h0, hg⟩ := Tr.need_get hg
    cases hg
    have h0 : 0 < b := of_decide_eq_true h0
    refine key (a % b) ?_ (Nat.lt_of_le_of_lt (Nat.mod_le _ _) ha) rfl
    simp only [Go.binOp, Op.intDiv, ne_eq, not_true, if_false, tmod_nat]
    rw [if_neg (by omega)]; rfl
  · cases h; cases hg
    have hx : a &&& b < 9223372036854775808 := Nat.lt_of_le_of_lt Nat.and_le_left ha
    refine key (a &&& b) ?_ hx rfl
    simp only [Go.binOp, ne_eq, not_true, if_false]
    exact bits_run _ .i64 a b _ (by rw [hab]; omega) (by rw [hab]; omega) hx (.inl ⟨rfl, rfl⟩)
  · cases h; cases hg
    have hx : a ||| b < 9223372036854775808 := Nat.or_lt_two_pow (n := 63) ha hb
    refine key (a ||| b) ?_ hx rfl
    simp only [Go.binOp, ne_eq, not_true, if_false]
    exact bits_run _ .i64 a b _ (by rw [hab]; omega) (by rw [hab]; omega) hx (.inr (.inl ⟨rfl, rfl⟩))
  · cases h; cases hg
    have hx : a ^^^ b < 9223372036854775808 := Nat.xor_lt_two_pow (n := 63) ha hb
    refine key (a ^^^ b) ?_ hx rfl
    simp only [Go.binOp, ne_eq, not_true, if_false]
    exact bits_run _ .i64 a b _ (by rw [hab]; omega) (by rw [hab]; omega) hx (.inr (.inr ⟨rfl, rfl⟩))
  · split at h
    · rename_i v' hv
      cases h; cases hg
      obtain ⟨cv, h1, h2⟩ := cmpN_run (P := P) (w := w) hv
      refine ⟨cv, ?_, h2⟩
      cases op <;> simp [cmpN] at hv <;> simpa [Go.binOp] using h1
    · cases h

theorem inI_spec {z : Int} (h : inI z = true) : -9223372036854775808 ≤ z ∧ z < 9223372036854775808 := by simpa [inI] using h

theorem binZ_run {op : BinOp} {a b : Int} {t : Tr SV} {v : SV} (ha : -9223372036854775808 ≤ a ∧ a < 9223372036854775808) (hb : -9223372036854775808 ≤ b ∧ b < 9223372036854775808) (h : binZ op a b = some t) (hg : t.get = some v) (hsh : isSh op = false) :
    ∃ cv, (Go.binOp op 0 (.int .i64 a) (.int .i64 b)).run P w = .ok cv w ∧ ∀ (cx : Cx) (β : Bm), RelS cx β v cv := by
  have key : ∀ (x : Int), (Go.binOp op 0 (.int .i64 a) (.int .i64 b)).run P w = .ok (.int .i64 x) w → -9223372036854775808 ≤ x ∧ x < 9223372036854775808 → v = .int x → ∃ cv, (Go.binOp op 0 (.int .i64 a) (.int .i64 b)).run P w = .ok cv w ∧ ∀ (cx : Cx) (β : Bm), RelS cx β v cv := by
    intro x e2 hx e3
    subst e3
    exact ⟨_, e2, fun cx β => ⟨rfl, hx.1, hx.2⟩⟩
  unfold binZ at h
  split at h
  · cases h
    obtain ⟨h0, hg⟩ := Tr.need_get hg
    cases hg
    have h0 := inI_spec h0
    refine key (a + b) ?_ h0 rfl
    simp only [Go.binOp, Op.intArith, ne_eq, not_true, if_false, Sem.run_pure]
    rw [wrap_i (by omega) (by omega)]
  · cases h
    obtain ⟨h0, hg⟩ := Tr.need_get hg
    cases hg
    have h0 := inI_spec h0
    refine key (a - b) ?_ h0 rfl
    simp only [Go.binOp, Op.intArith, ne_eq, not_true, if_false, Sem.run_pure]
    rw [wrap_i (by omega) (by omega)]
  · cases h
    obtain ⟨h0, hg⟩ := Tr.need_get hg
    cases hg
    have h0 := inI_spec h0
    refine key (a * b) ?_ h0 rfl
    simp only [Go.binOp, Op.intArith, ne_eq, not_true, if_false, Sem.run_pure]
    rw [wrap_i h0.1 h0.2]
  · cases h
    obtain ⟨h0, hg⟩ := Tr.need_get hg
    cases hg
    have h0 : 0 < b := of_decide_eq_true h0
    have hr : -9223372036854775808 ≤ a.tdiv b ∧ a.tdiv b < 9223372036854775808 := by
      have h1 : (a.tdiv b).natAbs ≤ a.natAbs := by rw [Int.natAbs_tdiv]; exact Nat.div_le_self _ _
      rcases Int.lt_or_le a 0 with h2 | h2
      · have : 0 ≤ (-a).tdiv b := Int.tdiv_nonneg (by omega) (by omega)
        rw [Int.neg_tdiv] at this
        omega
      · have : 0 ≤ a.tdiv b := Int.tdiv_nonneg h2 (by omega)
        omega
    refine key (a.tdiv b) ?_ hr rfl
    simp only [Go.binOp, Op.intDiv, ne_eq, not_true, if_false]
    rw [if_neg (by omega), wrap_i hr.1 hr.2]; rfl
  · cases h
    obtain ⟨h0, hg⟩ := Tr.need_get hg
    cases hg
    have h0 : 0 < b := of_decide_eq_true h0
    have hr : -9223372036854775808 ≤ a.tmod b ∧ a.tmod b < 9223372036854775808 := by
      have h1 : (a.tmod b).natAbs ≤ a.natAbs := by rw [Int.natAbs_tmod]; exact Nat.mod_le _ _
      rcases Int.lt_or_le a 0 with h2 | h2
      · have : 0 ≤ (-a).tmod b := Int.tmod_nonneg b (by omega)
        rw [Int.neg_tmod] at this
        omega
      · have : 0 ≤ a.tmod b := Int.tmod_nonneg b h2
        omega
    refine key (a.tmod b) ?_ hr rfl
    simp only [Go.binOp, Op.intDiv, ne_eq, not_true, if_false]
    rw [if_neg (by omega)]; rfl
  · split at h
    · rename_i v' hv
      cases h; cases hg
      obtain ⟨cv, h1, h2⟩ := cmpZ_run (P := P) (w := w) hv
      refine ⟨cv, ?_, h2⟩
      cases op <;> simp [cmpZ] at hv <;> simpa [Go.binOp] using h1
    · cases h

end
end Go.Proofs.Ytgebgjhjegadpaa

/-
  The abstract machine: how its values, blocks and states stand to the model's.
-/
import Derived.Test.YtgebgjhjegadpaaAbA
import Derived.Laws.Cells
import Derived.Laws.Rows
namespace Go.Proofs.Ytgebgjhjegadpaa
open Go

structure Cx where
  w0 : World
  X : Nat → Prop

structure Pl where
  blk : Nat
  base : Nat
  size : Nat

abbrev Bm := Nat → Option Pl

def RdI (cx : Cx) (k : IntKind) (xs : List Nat) (b o : Nat) : Prop :=
  ∀ (i x : Nat), xs[i]? = some x → cx.X b ∧ cx.w0.cell? ⟨b, o + i, none⟩ = some (.int k x) ∧ x < lim k

def RelXI (cx : Cx) (k : IntKind) (xs : List Nat) (cv : Value) : Prop :=
  (xs = [] ∧ cv = .slice none 0 0) ∨ ∃ b o cap, cv = .slice (some ⟨b, o, none⟩) xs.length cap ∧ xs.length ≤ cap ∧ RdI cx k xs b o

def RdX (cx : Cx) : XC → Nat → Nat → Prop
  | .ints k xs, b, o => RdI cx k xs b o
  | .arrs k n xss, b, o => ∀ i xs, xss[i]? = some xs → xs.length = n ∧ RdI cx k xs b (o + i * n)
  | .bss xss, b, o => ∀ i xs, xss[i]? = some xs → cx.X b ∧ ∃ cv, cx.w0.cell? ⟨b, o + i, none⟩ = some cv ∧ RelXI cx .u8 xs cv

def RelX (cx : Cx) (c : XC) (cv : Value) : Prop :=
  (c.len = 0 ∧ cv = .slice none 0 0) ∨ ∃ b o cap, cv = .slice (some ⟨b, o, none⟩) c.len cap ∧ c.len ≤ cap ∧ RdX cx c b o

def RelP (β : Bm) (p : Nat × Nat) (cv : Value) : Prop := ∃ q, β p.1 = some q ∧ cv = .pointer (some ⟨q.blk, q.base + p.2, none⟩)

def RelPs (β : Bm) : List (Nat × Nat) → List Value → Prop
  | [], l => l = []
  | p :: ps, l => ∃ cv l', l = cv :: l' ∧ RelP β p cv ∧ RelPs β ps l'

def RelS (cx : Cx) (β : Bm) : SV → Value → Prop
  | .bool b, cv => cv = .bool b
  | .nat k n, cv => cv = .int k n ∧ n < lim k
  | .int z, cv => cv = .int .i64 z ∧ -9223372036854775808 ≤ z ∧ z < 9223372036854775808
  | .str s, cv => ∃ ba : ByteArray, cv = .string ba ∧ s = ba.data.toList.map (·.toNat)
  | .ptr b off, cv => RelP β (b, off) cv
  | .sl _ b off len sz, cv => (len = 0 ∧ cv = .slice none 0 0) ∨ ∃ q cap x, β b = some q ∧ cv = .slice (some ⟨q.blk, x, none⟩) len cap ∧ (cap ≠ 0 → x = q.base + off) ∧ len ≤ cap ∧ off + cap * sz ≤ q.size
  | .nil, cv => cv = .slice none 0 0
  | .nilp, cv => cv = .pointer none
  | .xsl c, cv => RelX cx c cv
  | .xptr c i, cv => ∃ b o, cv = .pointer (some ⟨b, o + i * c.sz, none⟩) ∧ RdX cx c b o
  | .fn f first cap, cv => ∃ l1 l2, cv = .func (.func f) (List.toArray l1) (List.toArray l2) ∧ RelPs β first l1 ∧ RelPs β cap l2

def RelC (cx : Cx) (β : Bm) : List Ch → List Value → Prop
  | [], l => l = []
  | .ints k n xs :: cs, l => xs.length = n ∧ (∀ x ∈ xs, x < lim k) ∧ ∃ l', l = xs.map (fun x : Nat => Value.int k x) ++ l' ∧ RelC cx β cs l'
  | .one v :: cs, l => ∃ cv l', l = cv :: l' ∧ RelS cx β v cv ∧ RelC cx β cs l'

def RelV1 (cx : Cx) (β : Bm) : AV → Value → Prop
  | .any, _ => True
  | .s v, cv => RelS cx β v cv
  | .agg cs, cv => ∃ l, cv = .agg (List.toArray l) ∧ RelC cx β cs l
  | .tup _, _ => False

def RelL1 (cx : Cx) (β : Bm) : List AV → List Value → Prop
  | [], l => l = []
  | v :: vs, l => ∃ cv l', l = cv :: l' ∧ RelV1 cx β v cv ∧ RelL1 cx β vs l'

def RelV (cx : Cx) (β : Bm) : AV → Value → Prop
  | .tup vs, cv => ∃ l, cv = .tuple (List.toArray l) ∧ RelL1 cx β vs l
  | v, cv => RelV1 cx β v cv

/-- What a live name says of its block. -/
def Held (cx : Cx) (β : Bm) (w : World) (p : Pl) (cs : Blk) : Prop :=
  ∃ (c : Array Value) (T : TypeId) (fr : Nat × Nat), w.heap[p.blk]? = some (.cells c T fr) ∧ p.base + p.size ≤ c.size ∧
    (∀ o, p.base ≤ o → o < p.base + p.size → ¬ (fr.1 ≤ o ∧ o < fr.2)) ∧
    ∃ l, RelC cx β cs l ∧ l.length ≤ p.size ∧ ∀ i v, l[i]? = some v → c[p.base + i]? = some v

def WfB (cs : Blk) : Prop := ∀ k m xs, Ch.ints k m xs ∈ cs → xs.length = m

structure RelH (cx : Cx) (Wr : Nat → Prop) (β : Bm) (H : Nat → Option Blk) (D : Nat → Prop) (w : World) : Prop where
  size : cx.w0.heap.size ≤ w.heap.size
  frame : ∀ b, b < cx.w0.heap.size → ¬ Wr b → w.heap[b]? = cx.w0.heap[b]?
  xok : ∀ b, cx.X b → b < cx.w0.heap.size ∧ ¬ Wr b
  dom : ∀ n p, β n = some p → D n ∧ p.blk < w.heap.size ∧ (cx.w0.heap.size ≤ p.blk ∨ Wr p.blk)
  held : ∀ n p cs, β n = some p → H n = some cs → Held cx β w p cs
  wf : ∀ n cs, H n = some cs → WfB cs
  hd : ∀ n cs, H n = some cs → D n
  inj : ∀ n m p q, β n = some p → β m = some q → (H n).isSome = true → (H m).isSome = true → p.blk = q.blk → n = m
  os : w.os = cx.w0.os
  tape : w.tape = cx.w0.tape
  output : w.output = cx.w0.output

/-! 'β'' knows what β knows. -/
def Ext (β β' : Bm) : Prop := ∀ n p, β n = some p → β' n = some p

theorem Ext.refl (β : Bm) : Ext β β := fun _ _ h => h
theorem Ext.trans {a b c : Bm} (h : Ext a b) (k : Ext b c) : Ext a c := fun n p e => k n p (h n p e)

theorem RelP.ext {β β' : Bm} (h : Ext β β') {p : Nat × Nat} {cv : Value} : RelP β p cv → RelP β' p cv :=
  fun ⟨q, hq, e⟩ => ⟨q, h _ _ hq, e⟩

theorem RelPs.ext {β β' : Bm} (h : Ext β β') : ∀ {ps : List (Nat × Nat)} {l : List Value}, RelPs β ps l → RelPs β' ps l
  | [], _, e => e
  | _ :: _, _, ⟨cv, l', e, hp, hr⟩ => ⟨cv, l', e, hp.ext h, RelPs.ext h hr⟩

theorem RelS.ext {cx : Cx} {β β' : Bm} (h : Ext β β') {v : SV} {cv : Value} (hv : RelS cx β v cv) : RelS cx β' v cv := by
  cases v with
  | ptr b o => exact RelP.ext h hv
  | sl m b o l z => exact hv.imp id fun ⟨q, cap, x, hq, r⟩ => ⟨q, cap, x, h _ _ hq, r⟩
  | fn f a c => obtain ⟨l1, l2, e, h1, h2⟩ := hv; exact ⟨l1, l2, e, h1.ext h, h2.ext h⟩
  | _ => exact hv

theorem RelC.ext {cx : Cx} {β β' : Bm} (h : Ext β β') : ∀ {cs : List Ch} {l : List Value}, RelC cx β cs l → RelC cx β' cs l
  | [], _, e => e
  | .ints _ _ _ :: _, _, ⟨h1, h2, l', e, hr⟩ => ⟨h1, h2, l', e, RelC.ext h hr⟩
  | .one _ :: _, _, ⟨cv, l', e, hv, hr⟩ => ⟨cv, l', e, hv.ext h, RelC.ext h hr⟩

theorem RelV1.ext {cx : Cx} {β β' : Bm} (h : Ext β β') {v : AV} {cv : Value} (hv : RelV1 cx β v cv) : RelV1 cx β' v cv := by
  cases v with
  | any => trivial
  | s v => exact RelS.ext h hv
  | agg cs => obtain ⟨l, e, hr⟩ := hv; exact ⟨l, e, hr.ext h⟩
  | tup vs => exact hv.elim

theorem RelL1.ext {cx : Cx} {β β' : Bm} (h : Ext β β') : ∀ {vs : List AV} {l : List Value}, RelL1 cx β vs l → RelL1 cx β' vs l
  | [], _, e => e
  | _ :: _, _, ⟨cv, l', e, hv, hr⟩ => ⟨cv, l', e, hv.ext h, RelL1.ext h hr⟩

theorem RelV.ext {cx : Cx} {β β' : Bm} (h : Ext β β') {v : AV} {cv : Value} (hv : RelV cx β v cv) : RelV cx β' v cv := by
  cases v with
  | tup vs => obtain ⟨l, e, hr⟩ := hv; exact ⟨l, e, hr.ext h⟩
  | any => trivial
  | s v => exact RelV1.ext (v := .s v) h hv
  | agg cs => exact RelV1.ext (v := .agg cs) h hv

theorem RelV.of1 {cx : Cx} {β : Bm} {v : AV} {cv : Value} (hv : RelV1 cx β v cv) : RelV cx β v cv := by
  cases v with
  | tup vs => exact hv.elim
  | _ => exact hv

/-! One cell. -/
theorem RelS.oneCell {cx : Cx} {β : Bm} {v : SV} {cv : Value} (hv : RelS cx β v cv) : cv.oneCell' = true := by
  cases v with
  | bool b => cases hv; rfl
  | nat k n => obtain ⟨rfl, _⟩ := hv; rfl
  | int z => obtain ⟨rfl, _⟩ := hv; rfl
  | str s => obtain ⟨ba, rfl, _⟩ := hv; rfl
  | ptr b o => obtain ⟨q, _, rfl⟩ := hv; rfl
  | sl m b o l z => rcases hv with ⟨_, rfl⟩ | ⟨q, cap, x, _, rfl, _⟩ <;> rfl
  | nil => cases hv; rfl
  | nilp => cases hv; rfl
  | xsl c => rcases hv with ⟨_, rfl⟩ | ⟨b, o, cap, rfl, _⟩ <;> rfl
  | xptr c i => obtain ⟨b, o, rfl, _⟩ := hv; rfl
  | fn f a c => obtain ⟨l1, l2, rfl, _⟩ := hv; rfl

theorem oneCell_cells {v : Value} (h : v.oneCell' = true) : v.cells = #[v] := by
  cases v <;> first | rfl | (simp [Value.oneCell'] at h)

theorem RelC.oneCells {cx : Cx} {β : Bm} : ∀ {cs : List Ch} {l : List Value}, RelC cx β cs l → ∀ v ∈ l, v.oneCell' = true
  | [], _, e, v, hv => by rw [e] at hv; cases hv
  | .ints k n xs :: cs, l, ⟨_, _, l', e, hr⟩, v, hv => by
    rw [e] at hv
    rcases List.mem_append.1 hv with h | h
    · obtain ⟨x, _, rfl⟩ := List.mem_map.1 h; rfl
    · exact RelC.oneCells hr v h
  | .one s :: cs, l, ⟨cv, l', e, hs, hr⟩, v, hv => by
    rw [e] at hv
    rcases List.mem_cons.1 hv with rfl | h
    · exact hs.oneCell
    · exact RelC.oneCells hr v h

theorem RelC.length {cx : Cx} {β : Bm} : ∀ {cs : List Ch} {l : List Value}, RelC cx β cs l → l.length = sizeB cs
  | [], _, e => by rw [e]; rfl
  | .ints k n xs :: cs, l, ⟨hn, _, l', e, hr⟩ => by rw [e]; simp [sizeB, Ch.size, hn, RelC.length hr]
  | .one s :: cs, l, ⟨cv, l', e, hs, hr⟩ => by rw [e]; simp [sizeB, Ch.size, RelC.length hr]; omega

theorem RelC.wf {cx : Cx} {β : Bm} : ∀ {cs : List Ch} {l : List Value}, RelC cx β cs l → WfB cs
  | [], _, _ => fun _ _ _ h => by cases h
  | .ints k n xs :: cs, l, ⟨hn, _, l', _, hr⟩ => fun k' m ys h => by
    rcases List.mem_cons.1 h with h | h
    · cases h; exact hn
    · exact RelC.wf hr k' m ys h
  | .one s :: cs, l, ⟨cv, l', _, _, hr⟩ => fun k' m ys h => by
    rcases List.mem_cons.1 h with h | h
    · cases h
    · exact RelC.wf hr k' m ys h

theorem RelC.append {cx : Cx} {β : Bm} : ∀ {cs ds : List Ch} {l m : List Value}, RelC cx β cs l → RelC cx β ds m → RelC cx β (cs ++ ds) (l ++ m)
  | [], _, _, _, e, hd => by rw [e]; exact hd
  | .ints k n xs :: cs, ds, l, m, ⟨hn, hx, l', e, hr⟩, hd => ⟨hn, hx, l' ++ m, by rw [e, List.append_assoc], RelC.append hr hd⟩
  | .one s :: cs, ds, l, m, ⟨cv, l', e, hs, hr⟩, hd => ⟨cv, l' ++ m, by rw [e]; rfl, hs, RelC.append hr hd⟩

/-- A part of 'ints'. -/
theorem RelC.cutI {cx : Cx} {β : Bm} {k : IntKind} {n : Nat} {xs : List Nat} (hn : xs.length = n) (hx : ∀ x ∈ xs, x < lim k) (off m : Nat) (hm : off + m ≤ n) {cs : List Ch} {l : List Value} (hr : RelC cx β cs l) :
    RelC cx β (cutI k n xs off m :: cs) (((xs.drop off).take m).map (fun x : Nat => Value.int k x) ++ l) := by
  unfold Go.Proofs.Ytgebgjhjegadpaa.cutI
  split
  · rename_i h
    simp only [Bool.and_eq_true, Nat.beq_eq] at h
    obtain ⟨rfl, rfl⟩ := h
    refine ⟨hn, hx, l, ?_, hr⟩
    rw [List.drop_zero, List.take_of_length_le (by omega)]
  · exact ⟨by simp; omega, fun x h => hx x (List.mem_of_mem_drop (List.mem_of_mem_take h)), l, rfl, hr⟩

theorem subB_spec {cx : Cx} {β : Bm} : ∀ (cs : List Ch) (off len : Nat) (r : List Ch) (l : List Value), subB off len cs = some r → RelC cx β cs l →
    RelC cx β r ((l.drop off).take len) ∧ off + len ≤ l.length ∨ (len = 0 ∧ r = []) := by
  intro cs
  induction cs with
  | nil =>
    intro off len r l h hl
    unfold subB at h
    split at h
    · rename_i h0; simp at h0; simp at h; exact .inr ⟨h0, h⟩
    · simp at h
  | cons c cs ih =>
    intro off len r l h hl
    unfold subB at h
    split at h
    · rename_i h0; simp at h0; simp at h; exact .inr ⟨h0, h⟩
    · rename_i h0
      have hlen : len ≠ 0 := by intro e; rw [e] at h0; simp at h0
      simp only at h
      split at h
      · rename_i hle
        have hle' : c.size ≤ off := Nat.le_of_ble_eq_true hle
        cases c with
        | ints k n xs =>
          obtain ⟨hn, hx, l', rfl, hr⟩ := hl
          rcases ih _ _ _ _ h hr with ⟨h1, h2⟩ | ⟨h1, _⟩
          · simp only [Ch.size] at *
            refine .inl ⟨?_, by simp; omega⟩
            rw [List.drop_append, List.drop_of_length_le (by simp; omega)]
            simpa [hn] using h1
          · exact absurd h1 hlen
        | one v =>
          obtain ⟨cv, l', rfl, hv, hr⟩ := hl
          rcases ih _ _ _ _ h hr with ⟨h1, h2⟩ | ⟨h1, _⟩
          · simp only [Ch.size] at *
            refine .inl ⟨?_, by simp; omega⟩
            obtain ⟨o, rfl⟩ : ∃ o, off = o + 1 := ⟨off - 1, by omega⟩
            simpa using h1
          · exact absurd h1 hlen
      · rename_i hle
        have hlt : off < c.size := by
          rcases Nat.lt_or_ge off c.size with h | h
          · exact h
          · rw [Nat.ble_eq_true_of_le h] at hle; cases hle
        cases c with
        | one v =>
          obtain ⟨cv, l', rfl, hv, hr⟩ := hl
          simp only [Ch.size] at hlt
          obtain rfl : off = 0 := by omega
          simp only at h
          obtain ⟨m, rfl⟩ : ∃ m, len = m + 1 := ⟨len - 1, by omega⟩
          split at h
          · rename_i r' h'
            simp only [Option.some.injEq] at h; subst h
            simp only [Nat.add_sub_cancel] at h'
            rcases ih _ _ _ _ h' hr with ⟨h1, h2⟩ | ⟨h1, h2⟩
            · refine .inl ⟨⟨cv, _, by simp, hv, h1⟩, by simp; omega⟩
            · subst h1; subst h2
              refine .inl ⟨⟨cv, [], by simp, hv, rfl⟩, by simp⟩
          · cases h
        | ints k n xs =>
          obtain ⟨hn, hx, l', rfl, hr⟩ := hl
          simp only [Ch.size] at hlt
          simp only at h
          split at h
          · rename_i hb
            have hb' := Nat.le_of_ble_eq_true hb
            simp only [Option.some.injEq] at h; subst h
            refine .inl ⟨?_, by simp; omega⟩
            have := RelC.cutI (cx := cx) (β := β) (k := k) hn hx off len (by omega) (cs := []) (l := []) rfl
            rw [List.drop_append_of_le_length (by simp; omega), List.take_append_of_le_length (by simp; omega)]
            simpa [List.map_drop, List.map_take] using this
          · rename_i hb
            have hb' : n - off < len := by
              rcases Nat.lt_or_ge (n - off) len with h | h
              · exact h
              · rw [Nat.ble_eq_true_of_le h] at hb; cases hb
            split at h
            · rename_i r' h'
              simp only [Option.some.injEq] at h; subst h
              rcases ih _ _ _ _ h' hr with ⟨h1, h2⟩ | ⟨h1, h2⟩
              · refine .inl ⟨?_, by simp; omega⟩
                have := RelC.cutI (cx := cx) (β := β) (k := k) hn hx off (n - off) (by omega) h1
                rw [List.drop_append_of_le_length (by simp; omega), List.take_append]
                simp only [List.drop_zero] at this
                have e1 : ((xs.drop off).take (n - off)) = xs.drop off := List.take_of_length_le (by simp; omega)
                rw [e1] at this
                rw [List.take_of_length_le (by simp; omega)]
                simpa [List.map_drop, hn] using this
              · omega
            · cases h

theorem subB_rel {cx : Cx} {β : Bm} {cs : List Ch} {off len : Nat} {r : List Ch} {l : List Value} (h : subB off len cs = some r) (hl : RelC cx β cs l) : RelC cx β r ((l.drop off).take len) := by
  rcases subB_spec cs off len r l h hl with h | ⟨rfl, rfl⟩
  · exact h.1
  · simp [RelC]

theorem subB_le {cx : Cx} {β : Bm} {cs : List Ch} {off len : Nat} {r : List Ch} {l : List Value} (h : subB off len cs = some r) (h0 : len ≠ 0) (hl : RelC cx β cs l) : off + len ≤ l.length := by
  rcases subB_spec cs off len r l h hl with h | ⟨h, _⟩
  · exact h.2
  · exact absurd h h0

theorem getI_rel {cx : Cx} {β : Bm} {k : IntKind} {n off : Nat} {xs : List Nat} {cs : List Ch} {l : List Value} (hlt : off < n) (hl : RelC cx β (.ints k n xs :: cs) l) :
    ∃ cv, l[off]? = some cv ∧ RelS cx β (.nat k (xs.getD off 0)) cv := by
  obtain ⟨hn, hx, l', rfl, hr'⟩ := hl
  refine ⟨.int k (xs.getD off 0), ?_, rfl, ?_⟩
  · rw [List.getElem?_append_left (by simp; omega)]
    simp [List.getElem?_eq_getElem (show off < xs.length by omega), List.getD]
  · rw [List.getD, List.getElem?_eq_getElem (show off < xs.length by omega)]
    exact hx _ (List.getElem_mem _)

theorem getC_rel {cx : Cx} {β : Bm} : ∀ (cs : List Ch) (off : Nat) (r : List Bool) (v : SV) (l : List Value), getC cs off = some (r, v) → (∀ b ∈ r, b = true) → RelC cx β cs l →
    ∃ cv, l[off]? = some cv ∧ RelS cx β v cv := by
  intro cs
  induction cs with
  | nil => intro off r v l h; simp [getC] at h
  | cons c cs ih =>
    intro off r v l h hr hl
    cases c with
    | one s =>
      obtain ⟨cv', l', rfl, hs, hr'⟩ := hl
      cases off with
      | zero =>
        simp only [getC, Option.some.injEq, Prod.mk.injEq] at h
        obtain ⟨rfl, rfl⟩ := h
        exact ⟨cv', rfl, hs⟩
      | succ o =>
        simp only [getC] at h
        simpa using ih _ _ _ _ h hr hr'
    | ints k n xs =>
      cases cs with
      | nil =>
        simp only [getC, Option.some.injEq, Prod.mk.injEq] at h
        obtain ⟨rfl, rfl⟩ := h
        exact getI_rel (by simpa using hr) hl
      | cons c cs =>
        simp only [getC] at h
        split at h
        · rename_i hle
          have hle' := Nat.le_of_ble_eq_true hle
          obtain ⟨hn, hx, l', rfl, hr'⟩ := hl
          obtain ⟨cv, h1, h2⟩ := ih _ _ _ _ h hr hr'
          refine ⟨cv, ?_, h2⟩
          rw [List.getElem?_append_right (by simp; omega)]
          simpa [hn] using h1
        · rename_i hle
          simp only [Option.some.injEq, Prod.mk.injEq] at h
          obtain ⟨rfl, rfl⟩ := h
          refine getI_rel ?_ hl
          rcases Nat.lt_or_ge off n with h | h
          · exact h
          · rw [Nat.ble_eq_true_of_le h] at hle; cases hle

theorem setI_rel {cx : Cx} {β : Bm} {k : IntKind} {n off : Nat} {xs : List Nat} {cs cs' : List Ch} {l : List Value} {v : SV} {cv : Value} {r r' : List Bool} (hlt : off < n)
    (h : setI k n xs off cs r v = some (r', cs')) (hl : RelC cx β (.ints k n xs :: cs) l) (hv : RelS cx β v cv) :
    RelC cx β cs' (l.set off cv) ∧ off < l.length := by
  unfold setI at h
  split at h
  · rename_i k' x
    split at h
    · rename_i hk
      obtain rfl : k' = k := of_decide_eq_true hk
      simp only [Option.some.injEq, Prod.mk.injEq] at h
      obtain ⟨_, rfl⟩ := h
      obtain ⟨rfl, hx⟩ := hv
      obtain ⟨hn, hxs, l', rfl, hr'⟩ := hl
      refine ⟨⟨by simpa using hn, fun y hy => ?_, l', ?_, hr'⟩, by simp; omega⟩
      · rcases List.mem_or_eq_of_mem_set hy with h | rfl
        · exact hxs _ h
        · exact hx
      · rw [List.set_append_left _ _ (by simp; omega), List.map_set]
    · cases h
  · cases h

theorem setI_r {k : IntKind} {n off : Nat} {xs : List Nat} {cs cs' : List Ch} {v : SV} {r r' : List Bool} (h : setI k n xs off cs r v = some (r', cs')) : r' = r := by
  unfold setI at h
  split at h
  · split at h
    · simp only [Option.some.injEq, Prod.mk.injEq] at h; exact h.1.symm
    · cases h
  · cases h

theorem consO_some {c : Ch} {x : Option (List Bool × List Ch)} {r : List Bool} {cs : List Ch} (h : consO c x = some (r, cs)) : ∃ cs', x = some (r, cs') ∧ cs = c :: cs' := by
  unfold consO at h
  split at h
  · simp only [Option.some.injEq, Prod.mk.injEq] at h
    obtain ⟨rfl, rfl⟩ := h
    exact ⟨_, rfl, rfl⟩
  · cases h

theorem setC_rel {cx : Cx} {β : Bm} {v : SV} {cv : Value} (hv : RelS cx β v cv) : ∀ (cs : List Ch) (off : Nat) (r : List Bool) (cs' : List Ch) (l : List Value), setC v cs off = some (r, cs') → (∀ b ∈ r, b = true) → RelC cx β cs l →
    RelC cx β cs' (l.set off cv) ∧ off < l.length := by
  intro cs
  induction cs with
  | nil => intro off r cs' l h; simp [setC] at h
  | cons c cs ih =>
    intro off r cs' l h hr hl
    cases c with
    | one s =>
      obtain ⟨cv', l', rfl, hs, hr'⟩ := hl
      cases off with
      | zero =>
        simp only [setC, Option.some.injEq, Prod.mk.injEq] at h
        obtain ⟨rfl, rfl⟩ := h
        exact ⟨⟨cv, l', rfl, hv, hr'⟩, by simp⟩
      | succ o =>
        simp only [setC] at h
        obtain ⟨cs1, h1, rfl⟩ := consO_some h
        obtain ⟨h2, h3⟩ := ih _ _ _ _ h1 hr hr'
        exact ⟨⟨cv', _, by simp, hs, h2⟩, by simpa using h3⟩
    | ints k n xs =>
      cases cs with
      | nil =>
        simp only [setC] at h
        have := setI_r h
        subst this
        exact setI_rel (by simpa using hr) h hl hv
      | cons c cs =>
        simp only [setC] at h
        split at h
        · rename_i hle
          have hle' := Nat.le_of_ble_eq_true hle
          obtain ⟨cs1, h1, rfl⟩ := consO_some h
          obtain ⟨hn, hx, l', rfl, hr'⟩ := hl
          obtain ⟨h2, h3⟩ := ih _ _ _ _ h1 hr hr'
          refine ⟨⟨hn, hx, _, ?_, h2⟩, by simp; omega⟩
          rw [List.set_append_right _ _ (by simp; omega)]
          simp [hn]
        · rename_i hle
          refine setI_rel ?_ h hl hv
          rcases Nat.lt_or_ge off n with h | h
          · exact h
          · rw [Nat.ble_eq_true_of_le h] at hle; cases hle

theorem putB0_rel {cx : Cx} {β : Bm} {cs new r : List Ch} {off : Nat} {l m : List Value} (h : putB0 off new cs = some r) (hl : RelC cx β cs l) (hm : RelC cx β new m) :
    RelC cx β r (l.take off ++ m ++ l.drop (off + m.length)) := by
  unfold putB0 at h
  split at h
  · split at h
    · rename_i a b ha hb
      simp only [Option.some.injEq] at h; subst h
      have h1 := subB_rel ha hl
      have h2 := subB_rel hb hl
      rw [← hm.length] at h2
      have e : (l.drop (off + m.length)).take (sizeB cs - (off + m.length)) = l.drop (off + m.length) := List.take_of_length_le (by simp [hl.length])
      rw [e] at h2
      simpa using (h1.append hm).append h2
    · cases h
  · cases h

theorem putB0_le {cs new r : List Ch} {off : Nat} (h : putB0 off new cs = some r) : off + sizeB new ≤ sizeB cs := by
  unfold putB0 at h
  split at h
  · rename_i hb; exact Nat.le_of_ble_eq_true hb
  · cases h

theorem putB_cases {cs new r : List Ch} {off : Nat} (h : putB off new cs = some r) : putB0 off new cs = some r ∨ ∃ k x n xs, new = [.one (.nat k x)] ∧ cs = [.ints k n xs] ∧ off < n ∧ r = [.ints k n (xs.set off x)] := by
  unfold putB at h
  split at h
  · rename_i k x k' n xs
    split at h
    · rename_i hk
      rw [Bool.and_eq_true] at hk
      obtain rfl : k = k' := of_decide_eq_true hk.1
      simp only [Option.some.injEq] at h
      exact .inr ⟨k, x, n, xs, rfl, rfl, Nat.le_of_ble_eq_true hk.2, h.symm⟩
    · exact .inl h
  · exact .inl h

theorem putB_rel {cx : Cx} {β : Bm} {cs new r : List Ch} {off : Nat} {l m : List Value} (h : putB off new cs = some r) (hl : RelC cx β cs l) (hm : RelC cx β new m) :
    RelC cx β r (l.take off ++ m ++ l.drop (off + m.length)) := by
  rcases putB_cases h with h | ⟨k, x, n, xs, rfl, rfl, ho, rfl⟩
  · exact putB0_rel h hl hm
  · obtain ⟨hn, hx, l', rfl, rfl⟩ := hl
    obtain ⟨cv, m', rfl, ⟨rfl, hxl⟩, rfl⟩ := hm
    refine ⟨by simpa using hn, fun y hy => ?_, [], ?_, rfl⟩
    · rcases List.mem_or_eq_of_mem_set hy with h | h
      · exact hx y h
      · subst h; exact hxl
    · rw [List.append_nil, List.append_nil, List.map_set, List.set_eq_take_append_cons_drop, if_pos (by simp; omega)]
      simp

theorem putB_le {cs new r : List Ch} {off : Nat} (h : putB off new cs = some r) : off + sizeB new ≤ sizeB cs := by
  rcases putB_cases h with h | ⟨k, x, n, xs, rfl, rfl, ho, rfl⟩
  · exact putB0_le h
  · simp only [sizeB, Ch.size]; omega

end Go.Proofs.Ytgebgjhjegadpaa

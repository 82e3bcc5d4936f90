/-
  Part 2 of what the last text stands on: The abstract machine: its operations, one by one, against the model's: append, copy, make.
-/
import Derived.Test.YtgebgjhjegadpaaB1
import Derived.Laws.AppendOwn

set_option linter.unusedSimpArgs false
set_option linter.unusedVariables false

namespace Go.Proofs.Ytgebgjhjegadpaa
open Go

section
variable {P : Program} {cx : Cx} {Wr : Nat → Prop} {β : Bm} {H : Nat → Option Blk} {D : Nat → Prop} {w : World}

theorem notInt_spec {t : TypeId} (h : notInt P t = true) : (∃ e, P.underlying t = some (.slice e)) ∨ P.underlying t = some .string := by
  unfold notInt at h
  split at h
  · rename_i e hu; exact .inl ⟨_, hu⟩
  · rename_i hu; exact .inr hu
  · cases h

/-- append, where it fits. -/
theorem run_append_fit {t t2 ty e : TypeId} {i : TypeInfo} (ht : P.underlying t = some (.slice e)) (h2 : notInt P t2 = true) (hi : P.info? e = some i) (hsz : i.size = 1)
    {base : Option Addr} {sLen sCap : Nat} {x : Value} {news : List Value} {w' : World} (hlen : (Builtin.lenOf x).run P w = .ok news.length w) (hnew : (Builtin.firstCells 1 news.length x).run P w = .ok news.toArray w)
    (hroom : sLen + news.length ≤ sCap) (hst : ∀ a, base = some a → (storeCells (a.add sLen) news).run P w = .ok () w') (hnone : base = none → w' = w) :
    (Builtin.append_ #[t, t2] ty #[.slice base sLen sCap, x]).run P w = .ok (.slice base (sLen + news.length) sCap) w' := by
  cases base with
  | none =>
    obtain rfl := hnone rfl
    rcases notInt_spec h2 with ⟨d, hd⟩ | hd <;> simp [Builtin.append_, run_underlying ht, run_underlying hd, sizeOf, typeInfo, hi, hsz, hlen, hroom, hnew]
  | some a =>
    have := hst a rfl
    rcases notInt_spec h2 with ⟨d, hd⟩ | hd <;> simp [Builtin.append_, run_underlying ht, run_underlying hd, sizeOf, typeInfo, hi, hsz, hlen, hroom, hnew, this]

/-- append, where it must grow. -/
theorem run_append_big {t t2 ty e : TypeId} {i : TypeInfo} {z : Value} (ht : P.underlying t = some (.slice e)) (h2 : notInt P t2 = true) (hi : P.info? e = some i) (hsz : i.size = 1) (hz0 : i.zero = some z) (hz1 : z.cells.size = 1)
    {base : Option Addr} {sLen sCap : Nat} {x : Value} {olds news : List Value} (hlen : (Builtin.lenOf x).run P w = .ok news.length w) (hnew : (Builtin.firstCells 1 news.length x).run P w.drew = .ok news.toArray w.drew)
    (hold : (Builtin.firstCells 1 sLen (.slice base sLen sCap)).run P w.drew = .ok olds.toArray w.drew)
    (hroom : sCap < sLen + news.length) (hb : sLen + news.length ≤ 140737488355328) (hby : (sLen + news.length) * i.bytes ≤ 140737488355328) :
    ∃ cap rest, sLen + news.length ≤ cap ∧ rest.length = cap - (sLen + news.length) ∧ (Builtin.append_ #[t, t2] ty #[.slice base sLen sCap, x]).run P w = .ok (.slice (some ⟨w.heap.size, 0, none⟩) (sLen + news.length) cap) (w.drew.alloc (.cells (olds ++ (news ++ rest)).toArray e)) := by
  have h1 : ¬ (sLen + news.length ≤ sCap) := by omega
  have hsmall : ¬ (9223372036854775807 < ((sLen : Int) + (news.length : Int))) := by omega
  have hfit : ¬ (281474976710656 < Builtin.nextslicecap (sLen + news.length) sCap * i.bytes) := by
    have := growslice_fits (need := sLen + news.length) (old := sCap) (bytes := i.bytes) hroom (by omega)
    omega
  refine ⟨grownCap w (sLen + news.length) sCap e, (Builtin.zeroCells z.cells (grownCap w (sLen + news.length) sCap e - (sLen + news.length))).toList, grownCap_ge _ _ _ _, by simp [size_zeroCells, hz1], ?_⟩
  rcases notInt_spec h2 with ⟨d, hd⟩ | hd <;>
  · simp [Builtin.append_, run_underlying ht, run_underlying hd, sizeOf, typeInfo, zeroValue, hi, hsz, hz0, hlen, h1, hsmall, hfit, Question.forced, hnew, hold, newRow, grownCap]
    congr 2
    apply Array.ext'
    simp

theorem run_append_more {t t2 ty e : TypeId} {i : TypeInfo} {z : Value} (ht : P.underlying t = some (.slice e)) (h2 : notInt P t2 = true) (hi : P.info? e = some i) (hsz : i.size = 1) (hz0 : i.zero = some z) (hz1 : z.cells.size = 1)
    {base : Option Addr} {sLen sCap : Nat} {x : Value} {olds news : List Value} (hlen : (Builtin.lenOf x).run P w = .ok news.length w) (hnew : (Builtin.firstCells 1 news.length x).run P w.drew = .ok news.toArray w.drew)
    (hold : (Builtin.firstCells 1 sLen (.slice base sLen sCap)).run P w.drew = .ok olds.toArray w.drew)
    (hroom : sCap < sLen + news.length) (hb : sLen + news.length ≤ 4398046511104) (hby : (sLen + news.length) * i.bytes ≤ 35184372088832) :
    ∃ cap rest, sLen + news.length ≤ cap ∧ rest.length = cap - (sLen + news.length) ∧ (Builtin.append_ #[t, t2] ty #[.slice base sLen sCap, x]).run P w = .ok (.slice (some ⟨w.heap.size, 0, none⟩) (sLen + news.length) cap) (w.drew.alloc (.cells (olds ++ (news ++ rest)).toArray e)) :=
  run_append_big ht h2 hi hsz hz0 hz1 hlen hnew hold hroom (Nat.le_trans hb (by decide)) (Nat.le_trans hby (by decide))

theorem lenOf_slice {base : Option Addr} {n c : Nat} : (Builtin.lenOf (.slice base n c)).run P w = .ok n w := rfl

/-- What a source of append holds. -/
structure Src (P : Program) (w : World) (k : IntKind) (ys : List Nat) (cv : Value) : Prop where
  len : ∀ w', (Builtin.lenOf cv).run P w' = .ok ys.length w'
  now : ∀ n, n ≤ ys.length → (Builtin.firstCells 1 n cv).run P w = .ok ((ys.take n).map (fun x : Nat => Value.int k x)).toArray w
  drew : ∀ n, n ≤ ys.length → (Builtin.firstCells 1 n cv).run P w.drew = .ok ((ys.take n).map (fun x : Nat => Value.int k x)).toArray w.drew
  lim : ∀ x ∈ ys, x < lim k

theorem srcLen_eq {k : IntKind} {v : SV} {r : List Bool} {ys : List Nat} {rd : List Nat} {cv : Value} (hH : RelH cx Wr β H D w) (hv : RelS cx β v cv) (h : (catSrc k v).run H = some ((r, .ints k ys), rd)) (hr : ∀ b ∈ r, b = true) : srcLen ys v = ys.length := by
  cases v with
  | sl m b off len sz =>
    have h : (readSl (.ints k) (.sl m b off len sz)).run H = some ((r, .ints k ys), rd) := h
    have hx := relX_ints (readSl_rel (X := fun _ => True) hH (fun _ _ => trivial) hv h hr (fun _ _ _ _ => trivial))
    exact (row_len hx hv).symm
  | _ => rfl

theorem catSrc_src {k : IntKind} {v : SV} {r : List Bool} {ys : List Nat} {rd : List Nat} {cv : Value} (hH : RelH cx Wr β H D w) (hv : RelS cx β v cv) (h : (catSrc k v).run H = some ((r, .ints k ys), rd)) (hr : ∀ b ∈ r, b = true) : Src P w k ys cv := by
  obtain ⟨h1, h2, h3⟩ := catSrc_run (P := P) hH hv h hr rfl
  obtain ⟨_, h4, _⟩ := catSrc_run (P := P) hH.drew hv h hr rfl
  refine ⟨fun w' => ?_, h2, h4, h3⟩
  cases cv <;> simp [Builtin.lenOf] at h1 ⊢ <;> exact h1

theorem int_cells (k : IntKind) (x : Int) : (Value.int k x).cells.size = 1 := rfl

theorem map_oneCell {k : IntKind} (ys : List Nat) : ∀ v ∈ ys.map (fun x : Nat => Value.int k x), v.oneCell' = true := by
  intro v hv
  obtain ⟨x, _, rfl⟩ := List.mem_map.1 hv
  rfl

theorem relC_one {k : IntKind} {n : Nat} {xs : List Nat} (hn : xs.length = n) (h : ∀ x ∈ xs, x < lim k) : RelC cx β [.ints k n xs] (xs.map fun x : Nat => Value.int k x) := by
  subst hn; exact relC_ints h

/-- A new row that append made. -/
theorem grown_post {k : IntKind} {e : TypeId} {nx cap : Nat} {zs : List Nat} {rest : List Value} {wr : List (Nat × Option Blk)} (hH : RelH cx Wr β H D w) (hf : ¬ D nx) (hzs : ∀ x ∈ zs, x < lim k) (hcap : zs.length ≤ cap) (hrest : rest.length = cap - zs.length)
    (hwr : wr = [] ∨ ∃ b, wr = [(b, none)]) :
    Post cx Wr β H D ⟨.s (.sl .whole nx 0 zs.length 1), wr, [(nx, [.ints k zs.length zs])]⟩ (.slice (some ⟨w.heap.size, 0, none⟩) zs.length cap) (w.drew.alloc (.cells ((zs.map fun x : Nat => Value.int k x) ++ rest).toArray e)) := by
  have h1 := (hH.drew.alloc hf (c := ((zs.map fun x : Nat => Value.int k x) ++ rest).toArray) (T := e) (relC_one (cx := cx) (β := β) (k := k) rfl hzs) (by simp) (fun i v hv => by
    have hlt := (List.getElem?_eq_some_iff.1 hv).1
    simp only [List.getElem?_toArray]
    rw [List.getElem?_append_left hlt]; exact hv))
  have hs : ((zs.map fun x : Nat => Value.int k x) ++ rest).toArray.size = cap := by simp [hrest]; omega
  rw [hs] at h1
  refine ⟨β.put nx ⟨w.heap.size, 0, cap⟩, Bm.ext_put (hH.none_of_fresh hf), .inr ⟨⟨w.heap.size, 0, cap⟩, cap, 0, by simp [Bm.put], rfl, fun _ => rfl, hcap, by simp⟩, ?_⟩
  rw [dapp_cat]
  refine h1.mono (fun _ h => h) (fun n c hc => ?_)
  rcases hwr with rfl | ⟨b, rfl⟩
  · rwa [happ_new] at hc
  · rw [happ_cat] at hc
    by_cases hn : n = nx
    · simpa [hn] using hc
    · simp only [hn, if_false] at hc ⊢
      split at hc
      · cases hc
      · exact hc

theorem catNil_run {k : IntKind} {t t2 ty : TypeId} {nx : Nat} {ys : List Nat} {cvx : Value} {tr : Tr Out} {rd : List Nat} {out : Out} (ht : elemInt P t = some k) (h2 : notInt P t2 = true) (hs : Src P w k ys cvx)
    (h : (catO nx k ys ys.length .nil).run H = some (tr, rd)) (hg : tr.get = some out) (hH : RelH cx Wr β H D w) (hf : Fresh D out) :
    ∃ y w', (Builtin.append_ #[t, t2] ty #[.slice none 0 0, cvx]).run P w = .ok y w' ∧ Post cx Wr β H D out y w' := by
  obtain ⟨e, i, hu, hk, hi, hsz, hby, hz, hcp⟩ := elemInt_spec ht
  obtain rfl := pure_run h
  obtain ⟨h0, hg⟩ := Tr.need_get hg
  obtain rfl := leaf_get hg
  have h0 := of_decide_eq_true h0
  have hfn : ¬ D nx := hf nx (by simp [lkF_self])
  have hlen : (ys.map fun x : Nat => Value.int k x).length = ys.length := by simp
  by_cases hy : ys = []
  · subst hy
    refine ⟨.slice none 0 0, w, ?_, β, Ext.refl β, .inl ⟨rfl, rfl⟩, ?_⟩
    · have := run_append_fit (P := P) (w := w) (w' := w) (ty := ty) hu h2 hi hsz (base := none) (sLen := 0) (sCap := 0) (x := cvx) (news := []) (by simpa using hs.len w) (by simpa using hs.now 0 (by simp)) (by simp) (fun a h => by cases h) (fun _ => rfl)
      simpa using this
    · rw [happ_new, dapp_new]
      exact hH.unreal hfn (fun k' m xs hm => by simp at hm; obtain ⟨_, rfl, rfl⟩ := hm; rfl)
  · have hpos : 0 < ys.length := List.length_pos_iff.2 hy
    obtain ⟨cap, rest, h3, h4, h5⟩ := run_append_big (P := P) (w := w) (ty := ty) hu h2 hi hsz hz (int_cells _ _) (base := none) (sLen := 0) (sCap := 0) (x := cvx) (olds := []) (news := ys.map fun x : Nat => Value.int k x)
      (by simpa using hs.len w) (by simpa using hs.drew ys.length (Nat.le_refl _)) (by simp [Builtin.firstCells]) (by simpa using hpos) (by simpa using Nat.le_trans h0 (capK_le k)) (by simpa using Nat.le_trans (Nat.mul_le_mul_right i.bytes h0) hcp)
    simp only [hlen, Nat.zero_add, List.nil_append] at h3 h4 h5
    exact ⟨_, _, h5, grown_post hH hfn hs.lim h3 h4 (.inl rfl)⟩

theorem catR_run {nx b len : Nat} {k : IntKind} {ys : List Nat} {o : Option (List Bool × List Nat)} {tr : Tr Out} {rd : List Nat} {out : Out} (h : (catR nx b len k ys ys.length o).run H = some (tr, rd)) (hg : tr.get = some out) :
    ∃ r xs, o = some (r, xs) ∧ (∀ b ∈ r, b = true) ∧ len + ys.length ≤ 4398046511104 ∧ out = ⟨.s (.sl .whole nx 0 (len + ys.length) 1), [(b, none)], [(nx, [.ints k (len + ys.length) (xs ++ ys)])]⟩ := by
  unfold catR at h
  split at h
  · rename_i r xs
    obtain rfl := pure_run h
    obtain ⟨hr, hg⟩ := Tr.needs_get hg
    obtain rfl := leaf_get hg
    obtain ⟨hr1, hr2⟩ := all_app hr
    exact ⟨_, _, rfl, hr1, by simpa using hr2, rfl⟩
  · exact (fail_run h).elim

theorem catSl_run {k : IntKind} {t t2 ty : TypeId} {nx b off len : Nat} {m : LK} {ys : List Nat} {cva cvx : Value} {tr : Tr Out} {rd : List Nat} {out : Out} (ht : elemInt P t = some k) (h2 : notInt P t2 = true) (hs : Src P w k ys cvx)
    (h : (catO nx k ys ys.length (.sl m b off len 1)).run H = some (tr, rd)) (hg : tr.get = some out) (hH : RelH cx Wr β H D w) (hf : Fresh D out) (hv : RelS cx β (.sl m b off len 1) cva) :
    ∃ y w', (Builtin.append_ #[t, t2] ty #[cva, cvx]).run P w = .ok y w' ∧ Post cx Wr β H D out y w' := by
  obtain ⟨e, i, hu, hk, hi, hsz, hby, hz, hcp⟩ := elemInt_spec ht
  obtain ⟨cs, l, hcs, hk2, rfl⟩ := RM.run_look h
  obtain ⟨r, xs, hrow, hr, hb, rfl⟩ := catR_run hk2 hg
  have hfn : ¬ D nx := hf nx (by simp [lkF_self])
  obtain ⟨hx, hxl⟩ := rowOf_rel (X := fun _ => True) hH (fun _ _ => trivial) hv hcs hrow hr
  obtain ⟨hxd, _⟩ := rowOf_rel (X := fun _ => True) hH.drew (fun _ _ => trivial) hv hcs hrow hr
  have hlen : (ys.map fun x : Nat => Value.int k x).length = ys.length := by simp
  have hlim : ∀ x ∈ xs ++ ys, x < lim k := by
    intro x hxm
    rcases List.mem_append.1 hxm with h | h
    · rcases hx with ⟨rfl, _⟩ | ⟨_, _, _, _, _, hrd⟩
      · cases h
      · exact hrd.lim x h
    · exact hs.lim x h
  have hzl : (xs ++ ys).length = len + ys.length := by simp [hxl]
  rcases hv with ⟨rfl, rfl⟩ | ⟨q, cap, x, hq, rfl, hxa, hlc, hsz2⟩
  · -- nil
    obtain rfl : xs = [] := List.length_eq_zero_iff.1 hxl
    by_cases hy : ys = []
    · subst hy
      refine ⟨.slice none 0 0, w, ?_, β, Ext.refl β, .inl ⟨rfl, rfl⟩, ?_⟩
      · have := run_append_fit (P := P) (w := w) (w' := w) (ty := ty) hu h2 hi hsz (base := none) (sLen := 0) (sCap := 0) (x := cvx) (news := []) (by simpa using hs.len w) (by simpa using hs.now 0 (by simp)) (by simp) (fun a h => by cases h) (fun _ => rfl)
        simpa using this
      · rw [happ_cat, dapp_cat]
        refine (hH.unreal hfn (cs := [.ints k 0 []]) (fun k' m xs hm => by simp at hm; obtain ⟨_, rfl, rfl⟩ := hm; rfl)).mono (fun _ h => h) (fun n c hc => ?_)
        by_cases hn : n = nx
        · simpa [hn] using hc
        · simp only [hn, if_false] at hc ⊢
          split at hc
          · cases hc
          · exact hc
    · have hpos : 0 < ys.length := List.length_pos_iff.2 hy
      obtain ⟨cap, rest, h3, h4, h5⟩ := run_append_more (P := P) (w := w) (ty := ty) hu h2 hi hsz hz (int_cells _ _) (base := none) (sLen := 0) (sCap := 0) (x := cvx) (olds := []) (news := ys.map fun x : Nat => Value.int k x)
        (by simpa using hs.len w) (by simpa using hs.drew ys.length (Nat.le_refl _)) (by simp [Builtin.firstCells]) (by simpa using hpos) (by simpa using hb) (Nat.le_trans (Nat.mul_le_mul (by simpa using hb) hby) (Nat.le_refl 35184372088832))
      simp only [hlen, Nat.zero_add, List.nil_append] at h3 h4 h5
      have := grown_post (wr := [(b, none)]) (e := e) hH hfn hs.lim h3 h4 (.inr ⟨b, rfl⟩)
      exact ⟨_, _, h5, by simpa using this⟩
  · by_cases hroom : len + ys.length ≤ cap
    · -- it fits
      by_cases hc0 : cap = 0
      · have hy : ys = [] := List.length_eq_zero_iff.1 (by omega)
        have hx0 : xs = [] := List.length_eq_zero_iff.1 (by omega)
        subst hy hx0
        obtain rfl : len = 0 := by omega
        subst hc0
        refine ⟨.slice (some ⟨q.blk, x, none⟩) 0 0, w, ?_, ?_⟩
        · have := run_append_fit (P := P) (w := w) (w' := w) (ty := ty) hu h2 hi hsz (base := some ⟨q.blk, x, none⟩) (sLen := 0) (sCap := 0) (x := cvx) (news := []) (by simpa using hs.len w) (by simpa using hs.now 0 (by simp)) (by simp) (fun a h => rfl) (fun h => by cases h)
          simpa using this
        · obtain ⟨c, T, fr, hc, _⟩ := hH.held b q cs hq hcs
          refine ⟨β.put nx ⟨q.blk, 0, 0⟩, Bm.ext_put (hH.none_of_fresh hfn), .inr ⟨⟨q.blk, 0, 0⟩, 0, x, by simp [Bm.put], rfl, fun h => absurd rfl h, Nat.le_refl _, by simp⟩, ?_⟩
          rw [happ_cat, dapp_cat]
          refine hH.pass (cs := [.ints k 0 []]) (p := ⟨q.blk, 0, 0⟩) hfn hq (by rw [hcs]; rfl) rfl (fun _ _ => rfl) rfl rfl rfl rfl ⟨c, T, fr, hc, by simp, fun o h3 h4 => by simp at h4, [], ?_, by simp, fun i v h => by simp at h⟩
          exact ⟨rfl, by simp, [], rfl, rfl⟩
      · obtain rfl := hxa hc0
        rcases hx with ⟨_, h⟩ | ⟨b', o', cap', he, hcap', hrd⟩
        · cases h
        · simp only [Value.slice.injEq, Option.some.injEq, Addr.mk.injEq] at he
          obtain ⟨⟨rfl, rfl, _⟩, _, rfl⟩ := he
          obtain ⟨c, T, fr, hc, hs1, hfr, _⟩ := hH.held b q cs hq hcs
          have hst : (storeCells ⟨q.blk, q.base + off + len, none⟩ (ys.map fun x : Nat => Value.int k x)).run P w = .ok () (w.setCells q.blk (q.base + off + len) (ys.map fun x : Nat => Value.int k x)) := by
            have := run_storeCells_cells (P := P) q.blk (q.base + off + len) (ys.map fun x : Nat => Value.int k x) 0 w (fun j hj => by
              rw [hlen] at hj
              rw [cell_of_heap hc]; simp; omega) (fun j hj => by rw [hlen] at hj; exact frozen_of_heap hc (hfr _ (by omega) (by omega))) (map_oneCell ys)
            simpa using this
          refine ⟨.slice (some ⟨q.blk, q.base + off, none⟩) (len + ys.length) cap, w.setCells q.blk (q.base + off + len) (ys.map fun x : Nat => Value.int k x), ?_, ?_⟩
          · have := run_append_fit (P := P) (w := w) (ty := ty) hu h2 hi hsz (base := some ⟨q.blk, q.base + off, none⟩) (sLen := len) (sCap := cap) (x := cvx) (news := ys.map fun x : Nat => Value.int k x) (by simpa using hs.len w) (by simpa using hs.now ys.length (Nat.le_refl _)) (by simpa using hroom)
              (fun a h => by cases h; rw [addr_add]; exact hst) (fun h => by cases h)
            simpa using this
          · obtain ⟨⟨s1, s2, s3, s4⟩, s5⟩ := setCells_other q.blk (ys.map fun x : Nat => Value.int k x) (q.base + off + len) w
            obtain ⟨c', e1, e2, e3⟩ := setCells_heap q.blk (ys.map fun x : Nat => Value.int k x) (q.base + off + len) w c T fr hc
            refine ⟨β.put nx ⟨q.blk, q.base + off, cap⟩, Bm.ext_put (hH.none_of_fresh hfn), .inr ⟨⟨q.blk, q.base + off, cap⟩, cap, q.base + off, by simp [Bm.put], rfl, fun _ => rfl, hroom, by simp⟩, ?_⟩
            rw [happ_cat, dapp_cat]
            refine hH.pass (p := ⟨q.blk, q.base + off, cap⟩) (cs := [.ints k (len + ys.length) (xs ++ ys)]) hfn hq (by rw [hcs]; rfl) s1 s5 s2 s3 s4 rfl ⟨c', T, fr, e1, by rw [e2]; show q.base + off + cap ≤ _; omega, fun o h3 h4 => hfr o (by have h3 : q.base + off ≤ o := h3; omega) (by have h4 : o < q.base + off + cap := h4; omega), (xs ++ ys).map (fun x : Nat => Value.int k x), relC_one (by simp [hxl]) hlim, by simp; omega, fun j v hv => ?_⟩
            rw [List.map_append] at hv
            show c'[q.base + off + j]? = some v
            rw [e3, hlen]
            have hxm : (xs.map fun x : Nat => Value.int k x).length = len := by simp [hxl]
            by_cases hj : j < len
            · rw [List.getElem?_append_left (by omega)] at hv
              rw [if_neg (by omega)]
              rw [List.getElem?_map, Option.map_eq_some_iff] at hv
              obtain ⟨y, hy, rfl⟩ := hv
              have := (hrd j y hy).2.1
              rwa [cell_of_heap hc] at this
            · rw [List.getElem?_append_right (by omega), hxm] at hv
              have hjl := (List.getElem?_eq_some_iff.1 hv).1
              rw [hlen] at hjl
              rw [if_pos (by omega), show q.base + off + j - (q.base + off + len) = j - len by omega]
              exact hv
    · -- it grows
      have hold : (Builtin.firstCells 1 len (.slice (some ⟨q.blk, x, none⟩) len cap)).run P w.drew = .ok (xs.map fun x : Nat => Value.int k x).toArray w.drew := by
        simp only [Builtin.firstCells, Nat.mul_one]
        rcases hxd with ⟨_, h⟩ | ⟨b', o', cap', he, hcap', hrd⟩
        · cases h
        · simp only [Value.slice.injEq, Option.some.injEq, Addr.mk.injEq] at he
          obtain ⟨⟨rfl, rfl, _⟩, _, rfl⟩ := he
          refine run_cells (fun j v e => ?_) (by simp [hxl])
          rw [List.getElem?_map, Option.map_eq_some_iff] at e
          obtain ⟨y, hy, rfl⟩ := e
          exact (hrd j y hy).2.1
      obtain ⟨cap2, rest, h3, h4, h5⟩ := run_append_more (P := P) (w := w) (ty := ty) hu h2 hi hsz hz (int_cells _ _) (base := some ⟨q.blk, x, none⟩) (sLen := len) (sCap := cap) (x := cvx) (olds := xs.map fun x : Nat => Value.int k x) (news := ys.map fun x : Nat => Value.int k x)
        (by simpa using hs.len w) (by simpa using hs.drew ys.length (Nat.le_refl _)) hold (by simp; omega) (by simpa using hb) (Nat.le_trans (Nat.mul_le_mul (by simpa using hb) hby) (Nat.le_refl 35184372088832))
      simp only [hlen] at h3 h4 h5
      rw [← List.append_assoc, ← List.map_append] at h5
      have := grown_post (wr := [(b, none)]) (e := e) (zs := xs ++ ys) (cap := cap2) (rest := rest) hH hfn hlim (by rw [hzl]; exact h3) (by rw [hzl]; exact h4) (.inr ⟨b, rfl⟩)
      rw [hzl] at this
      exact ⟨_, _, h5, this⟩

end
end Go.Proofs.Ytgebgjhjegadpaa

namespace Go.Proofs.Ytgebgjhjegadpaa
open Go

section
variable {P : Program} {cx : Cx} {Wr : Nat → Prop} {β : Bm} {H : Nat → Option Blk} {D : Nat → Prop} {w : World}

theorem oneElem_spec {t : TypeId} (h : oneElem P t = true) : ∃ e i z, P.underlying t = some (.slice e) ∧ P.info? e = some i ∧ i.zero = some z ∧ i.size = 1 ∧ i.bytes ≤ 32 ∧ z.cells.size = 1 := by
  unfold oneElem at h
  split at h
  · rename_i e hu
    split at h
    · rename_i i hi
      split at h
      · rename_i z hz
        simp only [Bool.and_eq_true, Nat.beq_eq] at h
        exact ⟨e, i, z, hu, hi, hz, h.1.1, Nat.le_of_ble_eq_true h.1.2, h.2⟩
      · cases h
    · cases h
  · cases h

/-- What a source of append holds. -/
structure SrcC (P : Program) (w : World) (L : List Value) (cv : Value) : Prop where
  len : (Builtin.lenOf cv).run P w = .ok L.length w
  now : (Builtin.firstCells 1 L.length cv).run P w = .ok L.toArray w
  drew : (Builtin.firstCells 1 L.length cv).run P w.drew = .ok L.toArray w.drew

theorem subB_len {cs r : List Ch} {off len : Nat} {l : List Value} (h : subB off len cs = some r) (hl : RelC cx β cs l) : ((l.drop off).take len).length = len := by
  rcases subB_spec cs off len r l h hl with h | ⟨h, _⟩
  · simp; omega
  · simp [h]

theorem slCells {b off len : Nat} {m : LK} {cs r : List Ch} {cv : Value} (hH : RelH cx Wr β H D w) (hv : RelS cx β (.sl m b off len 1) cv) (hcs : H b = some cs) (hs : subB off len cs = some r) :
    ∃ L, RelC cx β r L ∧ L.length = len ∧ SrcC P w L cv := by
  rcases hv with ⟨rfl, rfl⟩ | ⟨q, cap, x, hq, rfl, hxa, hlc, hsz⟩
  · have : r = [] := by unfold subB at hs; simpa using hs.symm
    subst this
    exact ⟨[], rfl, rfl, ⟨rfl, by simp [Builtin.firstCells], by simp [Builtin.firstCells]⟩⟩
  · obtain ⟨l, hl1, hcell⟩ := (hH.held _ _ _ hq hcs).cells
    have hL := subB_len hs hl1
    refine ⟨(l.drop off).take len, subB_rel hs hl1, hL, ?_⟩
    have key : ∀ w' : World, (∀ a, w'.cell? a = w.cell? a) → (Builtin.firstCells 1 len (.slice (some ⟨q.blk, x, none⟩) len cap)).run P w' = .ok ((l.drop off).take len).toArray w' := by
      intro w' hw
      simp only [Builtin.firstCells, Nat.mul_one]
      refine run_cells (fun j v e => ?_) hL
      have hj := (List.getElem?_eq_some_iff.1 e).1
      obtain rfl := hxa (by omega)
      rw [hw, Nat.add_assoc]
      exact hcell _ _ (drop_take_get e)
    exact ⟨by rw [hL]; rfl, by rw [hL]; exact key w (fun _ => rfl), by rw [hL]; exact key w.drew (fun _ => rfl)⟩

theorem rowSrc_run {v : SV} {ds : List Ch} {n : Nat} {rd : List Nat} {cv : Value} (hH : RelH cx Wr β H D w) (hv : RelS cx β v cv) (h : (rowSrc v).run H = some ((ds, n), rd)) : ∃ L, RelC cx β ds L ∧ L.length = n ∧ SrcC P w L cv := by
  unfold rowSrc at h
  split at h
  · have := pure_run h
    simp only [Prod.mk.injEq] at this
    obtain ⟨rfl, rfl⟩ := this
    have hv : cv = .slice none 0 0 := hv
    subst hv
    exact ⟨[], rfl, rfl, ⟨rfl, by simp [Builtin.firstCells], by simp [Builtin.firstCells]⟩⟩
  · obtain ⟨cs, l, hcs, hk, rfl⟩ := RM.run_look h
    split at hk
    · rename_i r hs
      have := pure_run hk
      simp only [Prod.mk.injEq] at this
      obtain ⟨rfl, rfl⟩ := this
      exact slCells hH hv hcs hs
    · exact (fail_run hk).elim
  · exact (fail_run h).elim

/-- A new row that append made. -/
theorem grown_postC {e : TypeId} {nx cap n : Nat} {ds : List Ch} {L : List Value} {rest : List Value} {wr : List (Nat × Option Blk)} (hH : RelH cx Wr β H D w) (hf : ¬ D nx) (hL : RelC cx β ds L) (hn : L.length = n) (hcap : n ≤ cap) (hrest : rest.length = cap - n)
    (hwr : wr = [] ∨ ∃ b, wr = [(b, none)]) :
    Post cx Wr β H D ⟨.s (.sl .whole nx 0 n 1), wr, [(nx, ds)]⟩ (.slice (some ⟨w.heap.size, 0, none⟩) n cap) (w.drew.alloc (.cells (L ++ rest).toArray e)) := by
  have h1 := (hH.drew.alloc hf (c := (L ++ rest).toArray) (T := e) hL (by simp) (fun i v hv => by
    have hlt := (List.getElem?_eq_some_iff.1 hv).1
    simp only [List.getElem?_toArray]
    rw [List.getElem?_append_left hlt]; exact hv))
  have hs : (L ++ rest).toArray.size = cap := by simp [hrest]; omega
  rw [hs] at h1
  refine ⟨β.put nx ⟨w.heap.size, 0, cap⟩, Bm.ext_put (hH.none_of_fresh hf), .inr ⟨⟨w.heap.size, 0, cap⟩, cap, 0, by simp [Bm.put], rfl, fun _ => rfl, hcap, by simp⟩, ?_⟩
  rw [dapp_cat]
  refine h1.mono (fun _ h => h) (fun n c hc => ?_)
  rcases hwr with rfl | ⟨b, rfl⟩
  · rwa [happ_new] at hc
  · rw [happ_cat] at hc
    by_cases hn : n = nx
    · simpa [hn] using hc
    · simp only [hn, if_false] at hc ⊢
      split at hc
      · cases hc
      · exact hc

theorem unrealC {nx : Nat} {wr : List (Nat × Option Blk)} {ds : List Ch} {cv : Value} (hH : RelH cx Wr β H D w) (hf : ¬ D nx) (hL : WfB ds) (hwr : wr = [] ∨ ∃ b, wr = [(b, none)]) (hcv : RelV cx β (.s (.sl .whole nx 0 0 1)) cv) : Post cx Wr β H D ⟨.s (.sl .whole nx 0 0 1), wr, [(nx, ds)]⟩ cv w := by
  refine ⟨β, Ext.refl β, hcv, ?_⟩
  rw [dapp_cat]
  refine (hH.unreal hf hL).mono (fun _ h => h) (fun n c hc => ?_)
  rcases hwr with rfl | ⟨b, rfl⟩
  · rwa [happ_new] at hc
  · rw [happ_cat] at hc
    by_cases hn : n = nx
    · simpa [hn] using hc
    · simp only [hn, if_false] at hc ⊢
      split at hc
      · cases hc
      · exact hc

/-- Onto nothing. -/
theorem rowNil {t t2 ty : TypeId} {nx n : Nat} {ds : List Ch} {L : List Value} {cvx : Value} {wr : List (Nat × Option Blk)} (ht : oneElem P t = true) (h2 : notInt P t2 = true) (hH : RelH cx Wr β H D w) (hf : ¬ D nx) (hL : RelC cx β ds L) (hn : L.length = n) (hs : SrcC P w L cvx) (hb : n ≤ 1099511627776)
    (hwr : wr = [] ∨ ∃ b, wr = [(b, none)]) :
    ∃ y w', (Builtin.append_ #[t, t2] ty #[.slice none 0 0, cvx]).run P w = .ok y w' ∧ Post cx Wr β H D ⟨.s (.sl .whole nx 0 n 1), wr, [(nx, ds)]⟩ y w' := by
  obtain ⟨e, i, z, hu, hi, hz, hsz, hby, hz1⟩ := oneElem_spec ht
  subst hn
  by_cases hy : L = []
  · subst hy
    refine ⟨.slice none 0 0, w, ?_, unrealC hH hf hL.wf hwr (.inl ⟨rfl, rfl⟩)⟩
    have := run_append_fit (P := P) (w := w) (w' := w) (ty := ty) hu h2 hi hsz (base := none) (sLen := 0) (sCap := 0) (x := cvx) (news := []) (by simpa using hs.len) (by simpa using hs.now) (by simp) (fun a h => by cases h) (fun _ => rfl)
    simpa using this
  · have hpos : 0 < L.length := List.length_pos_iff.2 hy
    obtain ⟨cap, rest, h3, h4, h5⟩ := run_append_more (P := P) (w := w) (ty := ty) hu h2 hi hsz hz hz1 (base := none) (sLen := 0) (sCap := 0) (x := cvx) (olds := []) (news := L)
      hs.len hs.drew (by simp [Builtin.firstCells]) (by simpa using hpos) (by omega) (Nat.le_trans (Nat.mul_le_mul (by simpa using hb) hby) (Nat.le_refl 35184372088832))
    simp only [Nat.zero_add, List.nil_append] at h3 h4 h5
    exact ⟨_, _, h5, grown_postC hH hf hL rfl h3 h4 hwr⟩

/-- Onto a row. -/
theorem rowSl {t t2 ty : TypeId} {nx n b off len : Nat} {m : LK} {cs ds r : List Ch} {L : List Value} {cva cvx : Value} (ht : oneElem P t = true) (h2 : notInt P t2 = true) (hH : RelH cx Wr β H D w) (hf : ¬ D nx) (hL : RelC cx β ds L) (hn : L.length = n) (hs : SrcC P w L cvx) (hb : len + n ≤ 1099511627776)
    (hv : RelS cx β (.sl m b off len 1) cva) (hcs : H b = some cs) (hr : subB off len cs = some r) :
    ∃ y w', (Builtin.append_ #[t, t2] ty #[cva, cvx]).run P w = .ok y w' ∧ Post cx Wr β H D ⟨.s (.sl .whole nx 0 (len + n) 1), [(b, none)], [(nx, r ++ ds)]⟩ y w' := by
  obtain ⟨M, hM, hMl, hsM⟩ := slCells (P := P) hH hv hcs hr
  have hML := hM.append hL
  rcases hv with ⟨rfl, rfl⟩ | ⟨q, cap, x, hq, rfl, hxa, hlc, hsz2⟩
  · obtain rfl : M = [] := List.length_eq_zero_iff.1 hMl
    rw [Nat.zero_add] at hb ⊢
    exact rowNil ht h2 hH hf hML hn hs hb (.inr ⟨b, rfl⟩)
  · obtain ⟨e, i, z, hu, hi, hz, hsz, hby, hz1⟩ := oneElem_spec ht
    subst hn
    by_cases hroom : len + L.length ≤ cap
    · by_cases hc0 : cap = 0
      · have hy : L = [] := List.length_eq_zero_iff.1 (by omega)
        obtain rfl : len = 0 := by omega
        obtain rfl : M = [] := List.length_eq_zero_iff.1 hMl
        subst hy
        subst hc0
        refine ⟨.slice (some ⟨q.blk, x, none⟩) 0 0, w, ?_, ?_⟩
        · have := run_append_fit (P := P) (w := w) (w' := w) (ty := ty) hu h2 hi hsz (base := some ⟨q.blk, x, none⟩) (sLen := 0) (sCap := 0) (x := cvx) (news := []) (by simpa using hs.len) (by simpa using hs.now) (by simp) (fun a h => rfl) (fun h => by cases h)
          simpa using this
        · obtain ⟨c, T, fr, hc, _⟩ := hH.held b q cs hq hcs
          refine ⟨β.put nx ⟨q.blk, 0, 0⟩, Bm.ext_put (hH.none_of_fresh hf), .inr ⟨⟨q.blk, 0, 0⟩, 0, x, by simp [Bm.put], rfl, fun h => absurd rfl h, Nat.le_refl _, by simp⟩, ?_⟩
          rw [happ_cat, dapp_cat]
          exact hH.pass (cs := r ++ ds) (p := ⟨q.blk, 0, 0⟩) hf hq (by rw [hcs]; rfl) rfl (fun _ _ => rfl) rfl rfl rfl rfl ⟨c, T, fr, hc, by simp, fun o h3 h4 => by simp at h4, [] ++ [], hML.ext (Bm.ext_put (hH.none_of_fresh hf)), by simp, fun i v h => by simp at h⟩
      · obtain rfl := hxa hc0
        obtain ⟨c, T, fr, hc, hs1, hfr, l, hl1, hl2, hl3⟩ := hH.held b q cs hq hcs
        have hone : ∀ v ∈ L, v.oneCell' = true := hL.oneCells
        have hst : (storeCells ⟨q.blk, q.base + off + len, none⟩ L).run P w = .ok () (w.setCells q.blk (q.base + off + len) L) := by
          have := run_storeCells_cells (P := P) q.blk (q.base + off + len) L 0 w (fun j hj => by
            rw [cell_of_heap hc]; simp; omega) (fun j hj => frozen_of_heap hc (hfr _ (by omega) (by omega))) hone
          simpa using this
        refine ⟨.slice (some ⟨q.blk, q.base + off, none⟩) (len + L.length) cap, w.setCells q.blk (q.base + off + len) L, ?_, ?_⟩
        · have := run_append_fit (P := P) (w := w) (ty := ty) hu h2 hi hsz (base := some ⟨q.blk, q.base + off, none⟩) (sLen := len) (sCap := cap) (x := cvx) (news := L) hs.len hs.now hroom
            (fun a h => by cases h; rw [addr_add]; exact hst) (fun h => by cases h)
          simpa using this
        · obtain ⟨⟨s1, s2, s3, s4⟩, s5⟩ := setCells_other q.blk L (q.base + off + len) w
          obtain ⟨c', e1, e2, e3⟩ := setCells_heap q.blk L (q.base + off + len) w c T fr hc
          refine ⟨β.put nx ⟨q.blk, q.base + off, cap⟩, Bm.ext_put (hH.none_of_fresh hf), .inr ⟨⟨q.blk, q.base + off, cap⟩, cap, q.base + off, by simp [Bm.put], rfl, fun _ => rfl, hroom, by simp⟩, ?_⟩
          rw [happ_cat, dapp_cat]
          have hMe : RelC cx β r ((l.drop off).take len) := subB_rel hr hl1
          refine hH.pass (p := ⟨q.blk, q.base + off, cap⟩) (cs := r ++ ds) hf hq (by rw [hcs]; rfl) s1 s5 s2 s3 s4 rfl ⟨c', T, fr, e1, by rw [e2]; show q.base + off + cap ≤ _; omega, fun o h3 h4 => hfr o (by have h3 : q.base + off ≤ o := h3; omega) (by have h4 : o < q.base + off + cap := h4; omega), (l.drop off).take len ++ L, (hMe.append hL).ext (Bm.ext_put (hH.none_of_fresh hf)), by
            have := subB_len hr hl1
            simp only [List.length_append, this]; exact hroom, fun j v hv => ?_⟩
          have hml := subB_len hr hl1
          show c'[q.base + off + j]? = some v
          rw [e3]
          by_cases hj : j < len
          · rw [List.getElem?_append_left (by omega)] at hv
            rw [if_neg (by omega)]
            have := hl3 _ _ (drop_take_get hv)
            rw [Nat.add_assoc]; exact this
          · rw [List.getElem?_append_right (by omega), hml] at hv
            have hjl := (List.getElem?_eq_some_iff.1 hv).1
            rw [if_pos (by omega), show q.base + off + j - (q.base + off + len) = j - len by omega]
            exact hv
    · obtain ⟨cap2, rest, h3, h4, h5⟩ := run_append_more (P := P) (w := w) (ty := ty) hu h2 hi hsz hz hz1 (base := some ⟨q.blk, x, none⟩) (sLen := len) (sCap := cap) (x := cvx) (olds := M) (news := L)
        hs.len hs.drew (by have := hsM.drew; rw [hMl] at this; exact this) (by omega) (by omega) (Nat.le_trans (Nat.mul_le_mul hb hby) (Nat.le_refl 35184372088832))
      rw [← List.append_assoc] at h5
      exact ⟨_, _, h5, grown_postC hH hf hML (by simp [hMl]) h3 h4 (.inr ⟨b, rfl⟩)⟩

theorem appendRow_run {t t2 ty : TypeId} {nx : Nat} {a x : SV} {cva cvx : Value} {tr : Tr Out} {rd : List Nat} {out : Out} (h : (appendRow P nx t a x).run H = some (tr, rd)) (hg : tr.get = some out) (h2 : notInt P t2 = true) (hH : RelH cx Wr β H D w) (hf : Fresh D out) (ha : RelS cx β a cva) (hx : RelS cx β x cvx) :
    ∃ y w', (Builtin.append_ #[t, t2] ty #[cva, cvx]).run P w = .ok y w' ∧ Post cx Wr β H D out y w' := by
  unfold appendRow at h
  split at h
  · rename_i ht
    obtain ⟨⟨ds, n⟩, l1, l2, h3, h4, rfl⟩ := RM.run_bind h
    obtain ⟨L, hL, hn, hs⟩ := rowSrc_run (P := P) hH hx h3
    unfold rowCat at h4
    split at h4
    · obtain rfl := pure_run h4
      obtain ⟨h0, hg⟩ := Tr.need_get hg
      obtain rfl := leaf_get hg
      have ha : cva = .slice none 0 0 := ha
      subst ha
      exact rowNil ht h2 hH (hf nx (by simp [lkF_self])) hL hn hs (of_decide_eq_true h0) (.inl rfl)
    · obtain ⟨cs, l, hcs, hk, rfl⟩ := RM.run_look h4
      split at hk
      · rename_i r hr
        obtain rfl := pure_run hk
        obtain ⟨h0, hg⟩ := Tr.need_get hg
        obtain rfl := leaf_get hg
        exact rowSl ht h2 hH (hf nx (by simp [lkF_self])) hL hn hs (of_decide_eq_true h0) ha hcs hr
      · exact (fail_run hk).elim
    · exact (fail_run h4).elim
  · exact (fail_run h).elim

end
end Go.Proofs.Ytgebgjhjegadpaa

namespace Go.Proofs.Ytgebgjhjegadpaa
open Go

section
variable {P : Program} {cx : Cx} {Wr : Nat → Prop} {β : Bm} {H : Nat → Option Blk} {D : Nat → Prop} {w : World}

theorem needs_run {r : List Bool} {m : RM (Tr Out)} {tr : Tr Out} {rd : List Nat} {out : Out} (h : (RM.needs r m).run H = some (tr, rd)) (hg : tr.get = some out) : ∃ tr' rd', m.run H = some (tr', rd') ∧ tr'.get = some out ∧ ∀ b ∈ r, b = true := by
  obtain ⟨t, l1, l2, h1, h2, rfl⟩ := RM.run_bind h
  obtain rfl := pure_run h2
  obtain ⟨h3, h4⟩ := Tr.needs_get hg
  exact ⟨t, l1, h1, h4, h3⟩

theorem withI_run {k : IntKind} {f : List Nat → RM (Tr Out)} {c : List Bool × XC} {tr : Tr Out} {rd : List Nat} {out : Out} (h : (withI k f c).run H = some (tr, rd)) (hg : tr.get = some out) :
    ∃ ys tr' rd', c.2 = .ints k ys ∧ (∀ b ∈ c.1, b = true) ∧ (f ys).run H = some (tr', rd') ∧ tr'.get = some out := by
  unfold withI at h
  split at h
  · rename_i k' ys hc
    split at h
    · rename_i hk
      obtain rfl : k = k' := of_decide_eq_true hk
      obtain ⟨tr', rd', h1, h2, h3⟩ := needs_run h hg
      exact ⟨ys, tr', rd', hc, h3, h1, h2⟩
    · exact (fail_run h).elim
  · exact (fail_run h).elim

theorem appendSem_run {t t2 ty : TypeId} {nx : Nat} {a x : AV} {cva cvx : Value} {tr : Tr Out} {rd : List Nat} {out : Out} (h : (appendSem P nx t t2 a x).run H = some (tr, rd)) (hg : tr.get = some out) (hH : RelH cx Wr β H D w) (hf : Fresh D out) (ha : RelV cx β a cva) (hx : RelV cx β x cvx) :
    ∃ y w', (Builtin.append_ #[t, t2] ty #[cva, cvx]).run P w = .ok y w' ∧ Post cx Wr β H D out y w' := by
  unfold appendSem at h
  split at h
  · rename_i a x
    split at h
    · rename_i h2
      split at h
      · rename_i k hk
        obtain ⟨⟨r, c⟩, l1, l2, h3, h4, rfl⟩ := RM.run_bind h
        obtain ⟨ys, tr', rd', hc, hr, h5, hg⟩ := withI_run h4 hg
        simp only at hc hr
        subst hc
        have hs := catSrc_src (P := P) hH hx h3 hr
        rw [srcLen_eq hH hx h3 hr] at h5
        cases a with
        | nil =>
          have ha : cva = .slice none 0 0 := ha
          subst ha
          exact catNil_run hk h2 hs h5 hg hH hf
        | sl m b off len sz =>
          by_cases h1 : sz = 1
          · subst h1
            exact catSl_run hk h2 hs h5 hg hH hf ha
          · unfold catO at h5
            split at h5
            · rename_i heq; cases heq
            · rename_i heq; simp only [SV.sl.injEq] at heq; exact absurd heq.2.2.2.2 h1
            · exact (fail_run h5).elim
        | _ => exact (fail_run h5).elim
      · exact appendRow_run h hg h2 hH hf ha hx
    · exact (fail_run h).elim
  · exact (fail_run h).elim

theorem run_copy_gen {t t2 ty e : TypeId} {i : TypeInfo} (hu : P.underlying t = some (.slice e)) (hi : P.info? e = some i) (hsz : i.size = 1) {base : Option Addr} {dLen cap n m : Nat} {x : Value} {L : List Value} {w' : World}
    (hlen : (Builtin.lenOf x).run P w = .ok n w) (hm : Nat.min n dLen = m) (hnow : (Builtin.firstCells 1 m x).run P w = .ok L.toArray w) (hst : ∀ p, base = some p → (storeCells p L).run P w = .ok () w') (hnone : base = none → w' = w) :
    (Builtin.copy_ #[t, t2] ty #[.slice base dLen cap, x]).run P w = .ok (.int .i64 (m : Int)) w' := by
  cases base with
  | none =>
    obtain rfl := hnone rfl
    simp [Builtin.copy_, run_underlying hu, hlen, sizeOf, typeInfo, hi, hsz, hm, hnow, goInt]
  | some p =>
    have := hst p rfl
    simp [Builtin.copy_, run_underlying hu, hlen, sizeOf, typeInfo, hi, hsz, hm, hnow, this, goInt]

theorem copySem_run {t t2 ty : TypeId} {a x : AV} {cva cvx : Value} {tr : Tr Out} {rd : List Nat} {out : Out} (h : (copySem P t a x).run H = some (tr, rd)) (hg : tr.get = some out) (hH : RelH cx Wr β H D w) (ha : RelV cx β a cva) (hx : RelV cx β x cvx) :
    ∃ y w', (Builtin.copy_ #[t, t2] ty #[cva, cvx]).run P w = .ok y w' ∧ Post cx Wr β H D out y w' := by
  unfold copySem at h
  split at h
  · rename_i a x
    split at h
    · rename_i k hk
      obtain ⟨e, i, hu, hke, hi, hsz, hby, hz, hcp⟩ := elemInt_spec hk
      obtain ⟨⟨r, c⟩, l1, l2, h3, h4, rfl⟩ := RM.run_bind h
      obtain ⟨ys, tr', rd', hc, hr, h5, hg⟩ := withI_run h4 hg
      simp only at hc hr
      subst hc
      have hs := catSrc_src (P := P) hH hx h3 hr
      rw [srcLen_eq hH hx h3 hr] at h5
      unfold copyO at h5
      split at h5
      · rename_i m b off len
        obtain ⟨cs, l, hcs, hk2, rfl⟩ := RM.run_look h5
        split at hk2
        · rename_i k' n xs
          split at hk2
          · rename_i hkk
            obtain rfl : k = k' := of_decide_eq_true hkk
            obtain rfl := pure_run hk2
            obtain ⟨h0, hg⟩ := Tr.needs_get hg
            obtain rfl := leaf_get hg
            simp only [List.mem_cons, List.not_mem_nil, or_false, forall_eq_or_imp, forall_eq, decide_eq_true_eq] at h0
            obtain ⟨h0, hbig⟩ := h0
            rw [addOff_eq] at h0
            have hwf := hH.wf _ _ hcs k n xs (List.mem_singleton.2 rfl)
            have hlen := hs.len w
            have hnow := hs.now (min ys.length len) (Nat.min_le_left _ _)
            have hml : ((ys.take (min ys.length len)).map fun x : Nat => Value.int k x).length = min ys.length len := by simp
            have hrun : ∀ (base : Option Addr) (cap : Nat) (w' : World), (∀ p, base = some p → (storeCells p ((ys.take (min ys.length len)).map fun x : Nat => Value.int k x)).run P w = .ok () w') → (base = none → w' = w) →
                (Builtin.copy_ #[t, t2] ty #[.slice base len cap, cvx]).run P w = .ok (.int .i64 ((min ys.length len : Nat) : Int)) w' := by
              intro base cap w' h6 h7
              exact run_copy_gen hu hi hsz hlen rfl hnow h6 h7
            have hlim : ∀ q, β b = some q → ∀ x ∈ xs, x < lim k := by
              intro q hq
              obtain ⟨_, _, _, _, _, _, l, ⟨_, h, _⟩, _⟩ := hH.held b q _ hq hcs
              exact h
            rcases ha with ⟨rfl, rfl⟩ | ⟨q, cap, y, hq, rfl, hya, hlc, hsz2⟩
            · refine ⟨_, w, hrun none 0 w (fun p h => by cases h) (fun _ => rfl), β, Ext.refl β, ⟨by simp, by simp only [lim]; omega⟩, ?_⟩
              rw [happ_wr, dapp_wr]
              refine hH.mono (fun _ h => h) (fun m c hc => ?_)
              split at hc
              · rename_i hm
                subst hm
                rw [← hc]
                simp only [Nat.zero_le, Nat.min_eq_right, List.take_zero, List.nil_append, Nat.add_zero, List.take_append_drop]
                exact hcs
              · exact hc
            · by_cases hc0 : cap = 0
              · have hl0 : len = 0 := by omega
                subst hl0
                refine ⟨_, w, hrun (some _) cap w (fun p h => by cases h; simp [storeCells]) (fun h => by cases h), β, Ext.refl β, ⟨rfl, by simp only [lim]; omega⟩, ?_⟩
                rw [happ_wr, dapp_wr]
                refine hH.mono (fun _ h => h) (fun m c hc => ?_)
                split at hc
                · rename_i hm
                  subst hm
                  rw [← hc]
                  simp only [Nat.zero_le, Nat.min_eq_right, List.take_zero, List.nil_append, Nat.add_zero, List.take_append_drop]
                  exact hcs
                · exact hc
              · obtain rfl := hya hc0
                obtain ⟨h6, h7⟩ := write_run (P := P) (n := b) (q := q) (o := off) (vs := (ys.take (min ys.length len)).map fun x : Nat => Value.int k x) (cs := [.ints k n xs])
                  (cs' := [.ints k n (xs.take off ++ (ys.take (min ys.length len) ++ xs.drop (off + min ys.length len)))]) hH hq hcs (map_oneCell _) (by rw [hml]; omega) (fun l hl => by
                    obtain ⟨a1, a2, l', rfl, rfl⟩ := hl
                    have hll : (xs.take off ++ (ys.take (min ys.length len) ++ xs.drop (off + min ys.length len))).length = n := by simp; omega
                    obtain ⟨_, _, _, _, _, _, l2, hl2, hlq, _⟩ := hH.held b q _ hq hcs
                    have hl2 := hl2.length
                    simp only [sizeB, Ch.size] at hl2
                    refine ⟨_, relC_one hll (fun x hx => ?_), by simp only [List.length_map, hll]; omega, fun j v hv => ?_⟩
                    · rcases List.mem_append.1 hx with h | h
                      · exact a2 x (List.mem_of_mem_take h)
                      · rcases List.mem_append.1 h with h | h
                        · exact hs.lim x (List.mem_of_mem_take h)
                        · exact a2 x (List.mem_of_mem_drop h)
                    · rw [hml]
                      simp only [List.map_append] at hv
                      have e1 : ((xs.take off).map fun x : Nat => Value.int k x).length = off := by simp; omega
                      by_cases hj : off ≤ j ∧ j < off + min ys.length len
                      · rw [if_pos hj]
                        rw [List.getElem?_append_right (by omega), e1, List.getElem?_append_left (by omega)] at hv
                        exact hv
                      · rw [if_neg hj]
                        rw [List.append_nil]
                        by_cases hj2 : j < off
                        · rw [List.getElem?_append_left (by omega), List.map_take, List.getElem?_take, if_pos hj2] at hv
                          exact hv
                        · rw [List.getElem?_append_right (by omega), e1, List.getElem?_append_right (by omega), hml, List.map_drop, List.getElem?_drop] at hv
                          rwa [show off + min ys.length len + (j - off - min ys.length len) = j by omega] at hv)
                refine ⟨_, _, hrun (some _) cap _ (fun p h => by cases h; exact h6) (fun h => by cases h), β, Ext.refl β, ⟨rfl, by simp only [lim]; omega⟩, ?_⟩
                rw [happ_wr, dapp_wr]
                exact h7
          · exact (fail_run hk2).elim
        · exact (fail_run hk2).elim
      · exact (fail_run h5).elim
    · exact (fail_run h).elim
  · exact (fail_run h).elim

theorem makeO_run {nx : Nat} {k : IntKind} {l c : Option (List Bool × Nat)} {tr : Tr Out} {rd : List Nat} {out : Out} (h : (makeO nx k l c).run H = some (tr, rd)) (hg : tr.get = some out) :
    ∃ rl a rc b, l = some (rl, a) ∧ c = some (rc, b) ∧ (∀ x ∈ rl, x = true) ∧ (∀ x ∈ rc, x = true) ∧ a ≤ b ∧ b ≤ 4398046511104 ∧ out = ⟨.s (.sl .whole nx 0 a 1), [], [(nx, [.ints k a (List.replicate a 0)])]⟩ := by
  unfold makeO at h
  split at h
  · split at h
    · obtain rfl := pure_run h
      obtain ⟨hr, hg⟩ := Tr.needs_get hg
      obtain rfl := leaf_get hg
      obtain ⟨hr1, hr2⟩ := all_app hr
      obtain ⟨hr3, hr4⟩ := all_app hr2
      simp only [List.mem_cons, List.not_mem_nil, or_false, forall_eq_or_imp, forall_eq, decide_eq_true_eq] at hr4
      exact ⟨_, _, _, _, rfl, rfl, hr1, hr3, hr4.1, hr4.2, rfl⟩
    · exact (fail_run h).elim
  · exact (fail_run h).elim

theorem makeSliceSem_run {t : TypeId} {nx : Nat} {l c : AV} {cvl cvc : Value} {tr : Tr Out} {rd : List Nat} {out : Out} (h : (makeSliceSem P nx t l c).run H = some (tr, rd)) (hg : tr.get = some out) (hH : RelH cx Wr β H D w) (hf : Fresh D out) (hl : RelV cx β l cvl) (hc : RelV cx β c cvc) :
    ∃ y w', (Instr.makeSlice t cvl cvc).run P w = .ok y w' ∧ Post cx Wr β H D out y w' := by
  unfold makeSliceSem at h
  split at h
  · split at h
    · rename_i k hk
      obtain ⟨e, i, hu, hke, hi, hsz, hby, hz, hcp⟩ := elemInt_spec hk
      obtain ⟨rl, a, rc, b, h1, h2, h3, h4, h5, h6, rfl⟩ := makeO_run h hg
      obtain ⟨k1, rfl, _⟩ := asIx_run (P := P) h1 h3 hl w
      obtain ⟨k2, rfl, _⟩ := asIx_run (P := P) h2 h4 hc w
      have hfn : ¬ D nx := hf nx (by simp [lkF_self])
      have hb : i.bytes * b ≤ 8 * 4398046511104 := Nat.mul_le_mul hby h6
      have hrun := run_make (P := P) w t e i (.int k 0) hu hi hz k1 k2 (a : Int) (b : Int) (by omega) (by omega) (by rw [← Int.natCast_mul]; omega) (by omega)
      simp only [Int.toNat_natCast, hsz, Nat.mul_one] at hrun
      refine ⟨_, _, hrun, ?_⟩
      have hcell : ∀ j, j < b → (madeCells (Value.int k 0).cells b)[j]? = some (.int k 0) := by
        intro j hj
        simp [madeCells, Value.cells, hj, Nat.mod_one]
      have hms : (madeCells (Value.int k 0).cells b).size = b := size_madeCells _ _
      have hrep : ∀ x ∈ List.replicate a 0, x < lim k := fun x hx => by rw [(List.mem_replicate.1 hx).2]; exact lim_pos k
      have h7 := hH.alloc hfn (c := madeCells (Value.int k 0).cells b) (T := e) (relC_one (cx := cx) (β := β) (k := k) (n := a) (by simp) hrep) (by simp [hms]; exact h5) (fun j v hv => by
        rw [List.getElem?_map, Option.map_eq_some_iff] at hv
        obtain ⟨x, hx, rfl⟩ := hv
        have hj := (List.getElem?_eq_some_iff.1 hx).1
        simp only [List.length_replicate] at hj
        have : x = 0 := by
          rw [List.getElem?_replicate, if_pos hj] at hx; exact (Option.some.inj hx).symm
        subst this
        exact hcell j (by omega))
      rw [hms] at h7
      refine ⟨β.put nx ⟨w.heap.size, 0, b⟩, Bm.ext_put (hH.none_of_fresh hfn), .inr ⟨⟨w.heap.size, 0, b⟩, b, 0, by simp [Bm.put], rfl, fun _ => rfl, h5, by simp⟩, ?_⟩
      rw [happ_new, dapp_new]
      exact h7
    · exact (fail_run h).elim
  · exact (fail_run h).elim

end
end Go.Proofs.Ytgebgjhjegadpaa

namespace Go.Proofs.Ytgebgjhjegadpaa
open Go

section
variable {P : Program} {cx : Cx} {Wr : Nat → Prop} {β : Bm} {H : Nat → Option Blk} {D : Nat → Prop} {w : World}

theorem strT_run {xs : List Nat} {tr : Tr Out} {rd : List Nat} {out : Out} (h : (strT xs).run H = some (tr, rd)) (hg : tr.get = some out) : out = Out.val (.s (.str xs)) := by
  obtain rfl := pure_run h
  exact oneT_get hg

theorem foldl_push (ns : List Int) : ∀ (acc : ByteArray), (ns.foldl (fun r n => r.push (UInt8.ofNat n.toNat)) acc).data.toList = acc.data.toList ++ ns.map fun n => UInt8.ofNat n.toNat := by
  induction ns with
  | nil => intro acc; simp
  | cons n ns ih =>
    intro acc
    simp only [List.foldl_cons, ih, List.map_cons]
    simp [ByteArray.push]

theorem bytesToString_run {xs : List Nat} {cv : Value} {X : Nat → Prop} (h : RelXI (now w X) .u8 xs cv) : ∃ ba, (Conv.bytesToString cv).run P w = .ok (.string ba) w ∧ xs = ba.data.toList.map (·.toNat) := by
  rcases h with ⟨rfl, rfl⟩ | ⟨b, o, cap, rfl, _, hrd⟩
  · exact ⟨ByteArray.empty, rfl, rfl⟩
  · have h1 : (loadCells ⟨b, o, none⟩ xs.length).run P w = .ok ((xs.map fun x : Nat => (x : Int)).map (Value.int .u8)).toArray w := by
      refine run_cells (fun i v e => ?_) (by simp)
      rw [List.map_map, List.getElem?_map, Option.map_eq_some_iff] at e
      obtain ⟨x, hx, rfl⟩ := e
      exact (hrd i x hx).2.1
    refine ⟨_, run_bytesToString w _ _ cap _ h1, ?_⟩
    rw [foldl_push]
    have hlim := hrd.lim
    simp only [List.map_map]
    apply List.ext_getElem?
    intro i
    cases hx : xs[i]? with
    | none => simp [hx]
    | some x =>
      have := hlim x (List.mem_of_getElem? hx)
      simp only [lim] at this
      simp [hx]
      omega

theorem toStr_run {src dst : TypeId} {v : SV} {cv : Value} {tr : Tr Out} {rd : List Nat} {out : Out} (hd : P.underlying dst = some .string) (h : (toStr P src v).run H = some (tr, rd)) (hg : tr.get = some out) (hH : RelH cx Wr β H D w) (hv : RelS cx β v cv)
    (hs : ∃ d, P.underlying src = some d) : ∃ y, (Go.convert src dst cv).run P w = .ok y w ∧ Post cx Wr β H D out y w := by
  unfold toStr at h
  split at h
  · obtain rfl := strT_run h hg
    obtain ⟨d, hsd⟩ := hs
    obtain ⟨ba, rfl, rfl⟩ := hv
    refine ⟨.string ba, ?_, post_val hH (RelV.of1 (v := .s _) ⟨ba, rfl, rfl⟩)⟩
    cases d <;> simp [Go.convert, run_underlying hsd, run_underlying hd]
  · split at h
    · rename_i e hsrc
      split at h
      · rename_i he
        obtain ⟨⟨r, xs⟩, l1, l2, h1, h2, rfl⟩ := RM.run_bind h
        obtain ⟨tr', rd', h3, hg, hr⟩ := needs_run h2 hg
        obtain rfl := strT_run h3 hg
        have hx := bytesOf_rel (X := fun _ => True) hH (fun _ _ => trivial) hv h1 hr (fun _ _ _ _ => trivial)
        obtain ⟨ba, h4, h5⟩ := bytesToString_run (P := P) hx
        refine ⟨.string ba, ?_, post_val hH (RelV.of1 (v := .s _) ⟨ba, rfl, h5⟩)⟩
        rcases hx with ⟨_, rfl⟩ | ⟨b, o, cap, rfl, _, _⟩
        · simpa [Go.convert, run_underlying hsrc, run_underlying hd, run_underlying he] using h4
        · simpa [Go.convert, run_underlying hsrc, run_underlying hd, run_underlying he] using h4
      · exact (fail_run h).elim
    · exact (fail_run h).elim

theorem freeze_heap {w : World} {b o n : Nat} {c : Array Value} {T : TypeId} {lo hi : Nat} (h : w.heap[b]? = some (.cells c T (lo, hi))) (hn : n ≠ 0) :
    (w.freeze ⟨b, o, none⟩ n).heap[b]? = some (.cells c T (if lo = hi then (o, o + n) else (min lo o, max hi (o + n)))) ∧ (∀ k, k ≠ b → (w.freeze ⟨b, o, none⟩ n).heap[k]? = w.heap[k]?) ∧ (w.freeze ⟨b, o, none⟩ n).heap.size = w.heap.size := by
  refine ⟨?_, fun k hk => ?_, ?_⟩
  · simp [World.freeze, hn, Array.getElem?_modify, h]
  · simp only [World.freeze, hn, if_false, Array.getElem?_modify]
    rw [if_neg (by omega)]
  · simp [World.freeze, hn]

theorem toBytes_run {src dst e : TypeId} {v : SV} {nx : Nat} {cv : Value} {tr : Tr Out} {rd : List Nat} {out : Out} (hd : P.underlying dst = some (.slice e)) (h : (toBytes P nx e v).run H = some (tr, rd)) (hg : tr.get = some out) (hH : RelH cx Wr β H D w) (hf : Fresh D out) (hv : RelS cx β v cv)
    (hs : ∃ d, P.underlying src = some d) : ∃ y w', (Go.convert src dst cv).run P w = .ok y w' ∧ Post cx Wr β H D out y w' := by
  unfold toBytes at h
  split at h
  · rename_i s
    split at h
    · rename_i he
      obtain ⟨d, hsd⟩ := hs
      obtain rfl := pure_run h
      obtain rfl := leaf_get hg
      obtain ⟨ba, rfl, rfl⟩ := hv
      have hfn : ¬ D nx := hf nx (by simp [lkF_self])
      have hbs : (ba.data.toList.map (·.toNat)).length = ba.size := by simp
      obtain ⟨cap, hcap, hq⟩ : ∃ cap, ba.size ≤ cap ∧ (Question.appendCap ba.size 0 e).cut (w.tape w.drawn (.appendCap ba.size 0 e)) = cap := ⟨_, by simp [Question.cut], rfl⟩
      let els : Array Value := ba.data.map (fun b => Value.int .u8 b.toNat) ++ Array.replicate (cap - ba.size) (.int .u8 0)
      have hels : els.size = cap := by simp [els]; have : ba.data.size = ba.size := rfl; omega
      have h1 := hH.drew.alloc hfn (c := els) (T := e) (relC_one (cx := cx) (β := β) (k := .u8) (xs := ba.data.toList.map (·.toNat)) hbs (fun x hx => by
        obtain ⟨y, _, rfl⟩ := List.mem_map.1 hx; exact y.toNat_lt)) (by rw [hels]; simp; exact hcap) (fun i v hv => by
          rw [List.map_map, List.getElem?_map, Option.map_eq_some_iff] at hv
          obtain ⟨x, hx, rfl⟩ := hv
          have hi := (List.getElem?_eq_some_iff.1 hx).1
          simp only [els]
          rw [Array.getElem?_append_left (by simpa using hi)]
          have hx' : ba.data[i]? = some x := by simpa using hx
          simp [hx'])
      rw [hels] at h1
      have hnew : (w.drew.alloc (.cells els e)).heap[w.heap.size]? = some (.cells els e (0, 0)) := heap_alloc_new w.drew (.cells els e)
      obtain ⟨f1, f2, f3⟩ := freeze_heap (o := cap) (n := 1) hnew (by omega)
      have hrun : (Go.convert src dst (.string ba)).run P w = .ok (.slice (some ⟨w.heap.size, 0, none⟩) ba.size cap) ((w.drew.alloc (.cells els e)).freeze ⟨w.heap.size, cap, none⟩ 1) := by
        have hshape : (w.drew.alloc (.cells els e)).shape? w.heap.size = some (e, cap) := by
          simp only [World.shape?, hnew, hels]
        have hm : (markStringish ⟨w.heap.size, 0, none⟩).run P (w.drew.alloc (.cells els e)) = .ok () ((w.drew.alloc (.cells els e)).freeze ⟨w.heap.size, cap, none⟩ 1) := by
          simp only [markStringish, Sem.run_bind, run_shape, Result.andThen_ok, hshape, run_freeze]
        have hst : (Conv.stringToBytes e ba).run P w = .ok (.slice (some ⟨w.heap.size, 0, none⟩) ba.size cap) ((w.drew.alloc (.cells els e)).freeze ⟨w.heap.size, cap, none⟩ 1) := by
          simp only [Conv.stringToBytes, Sem.run_bind, run_choose, Question.forced, Bool.false_eq_true, if_false, Result.andThen_ok, hq, newRow, run_newObj, Sem.run_pure, World.drew_eq, World.size_drew, World.alloc_eq]
          simp only [els] at hm
          simp only [hm, Result.andThen_ok, els]
        cases d <;> simp only [Go.convert, Sem.run_bind, run_underlying hsd, run_underlying hd, Result.andThen_ok, run_underlying he] <;> exact hst
      refine ⟨_, _, hrun, β.put nx ⟨w.heap.size, 0, cap⟩, Bm.ext_put (hH.none_of_fresh hfn), .inr ⟨⟨w.heap.size, 0, cap⟩, cap, 0, by simp [Bm.put], by rw [hbs], fun _ => rfl, by rw [hbs]; exact hcap, by simp⟩, ?_⟩
      rw [happ_new, dapp_new]
      have h2 := h1.write (n := nx) (p := ⟨w.heap.size, 0, cap⟩) (by simp [Bm.put]) (cs := [.ints .u8 ba.size (ba.data.toList.map (·.toNat))]) (cs' := [.ints .u8 ba.size (ba.data.toList.map (·.toNat))]) (by simp)
        (w' := (w.drew.alloc (.cells els e)).freeze ⟨w.heap.size, cap, none⟩ 1) f3 f2 (by simp [World.freeze]) (by simp [World.freeze]) (by simp [World.freeze]) (by
          obtain ⟨c, T, fr, g1, g2, g3, l, g4, g5, g6⟩ := h1.held nx ⟨w.heap.size, 0, cap⟩ [.ints .u8 ba.size (ba.data.toList.map (·.toNat))] (by simp [Bm.put]) (by simp)
          have g1' : (w.drew.alloc (.cells els e)).heap[w.heap.size]? = some (.cells c T fr) := g1
          rw [hnew] at g1'
          simp only [Option.some.injEq, Obj.cells.injEq] at g1'
          obtain ⟨rfl, rfl, rfl⟩ := g1'
          exact ⟨els, e, _, f1, g2, fun o a1 a2 => by simp at a2 ⊢; omega, l, g4, g5, g6⟩)
      rw [hbs]
      refine h2.mono (fun _ h => h) (fun n c hc => ?_)
      by_cases hn : n = nx
      · simpa [hn] using hc
      · simpa [hn] using hc
    · exact (fail_run h).elim
  · exact (fail_run h).elim

theorem not_nat {b n : Nat} (h : n < 2 ^ b) : 2 ^ b - 1 - n = (2 ^ b - 1) ^^^ n := by
  have h1 : (~~~(BitVec.ofNat b n)).toNat = 2 ^ b - 1 - n := by
    rw [BitVec.toNat_not, BitVec.toNat_ofNat, Nat.mod_eq_of_lt h]
  have h2 : (BitVec.allOnes b ^^^ BitVec.ofNat b n).toNat = (2 ^ b - 1) ^^^ n := by
    rw [BitVec.toNat_xor, BitVec.toNat_allOnes, BitVec.toNat_ofNat, Nat.mod_eq_of_lt h]
  rw [← h1, ← h2, BitVec.allOnes_xor]

theorem unSem_run {op : UnOp} {x : AV} {cv : Value} {tr : Tr Out} {rd : List Nat} {out : Out} (h : (unSem op x).run H = some (tr, rd)) (hg : tr.get = some out) (hH : RelH cx Wr β H D w) (hv : RelV cx β x cv) :
    ∃ y, (Op.unary op cv).run P w = .ok y w ∧ Post cx Wr β H D out y w := by
  unfold unSem at h
  split at h
  · have hv : cv = .bool _ := hv
    subst hv
    split at h
    · obtain rfl := pure_run h
      obtain rfl := oneT_get hg
      exact ⟨_, rfl, post_val hH (RelV.of1 (v := .s _) rfl)⟩
    · exact (fail_run h).elim
  · rename_i k n
    obtain ⟨rfl, hn⟩ := hv
    split at h
    · split at h
      · rename_i hu
        obtain rfl := pure_run h
        obtain rfl := oneT_get hg
        have hpos := lim_pos k
        have hb := lim_bits hu
        refine ⟨.int k ((lim k - 1 - n : Nat) : Int), ?_, post_val hH (RelV.of1 (v := .s _) ⟨rfl, by omega⟩)⟩
        have e : (if k.signed = true then (-1 : Int) else k.max) = ((lim k - 1 : Nat) : Int) := by
          cases k <;> simp [isU] at hu <;> rfl
        have e2 : (Op.unary .xor (.int k (n : Int))) = Op.intBits .xor k ((lim k - 1 : Nat) : Int) (n : Int) := by
          rw [← e]; rfl
        rw [e2]
        refine bits_run _ k _ n _ (by rw [← hb]; omega) (by rw [← hb]; exact hn) (by omega) (.inr (.inr ⟨rfl, ?_⟩))
        rw [hb] at hn ⊢
        exact not_nat hn
      · exact (fail_run h).elim
    · exact (fail_run h).elim
  · exact (fail_run h).elim

theorem pickSem_run {c x y : AV} {cc cvx cvy : Value} {tr : Tr Out} {rd : List Nat} {out : Out} (h : (pickSem c x y).run H = some (tr, rd)) (hg : tr.get = some out) (hH : RelH cx Wr β H D w) (hc : RelV cx β c cc) (hx : RelV cx β x cvx) (hy : RelV cx β y cvy) :
    ∃ t : Bool, cc = .bool t ∧ Post cx Wr β H D out (if t = true then cvx else cvy) w := by
  unfold pickSem at h
  split at h
  · rename_i t a b
    have hc : cc = .bool t := hc
    have hx : cvx = .bool a := hx
    have hy : cvy = .bool b := hy
    subst hc hx hy
    obtain rfl := pure_run h
    obtain rfl := oneT_get hg
    refine ⟨t, rfl, post_val hH (RelV.of1 (v := .s _) ?_)⟩
    cases t <;> rfl
  · rename_i t _
    have hc : cc = .bool t := hc
    subst hc
    split at h
    · obtain rfl := pure_run h
      obtain rfl := leaf_get hg
      exact ⟨true, rfl, post_val hH hx⟩
    · obtain rfl := pure_run h
      obtain rfl := leaf_get hg
      exact ⟨false, rfl, post_val hH hy⟩
  · exact (fail_run h).elim

theorem natT_run {n : Nat} {tr : Tr Out} {rd : List Nat} {out : Out} (h : (natT n).run H = some (tr, rd)) (hg : tr.get = some out) : n < 9223372036854775808 ∧ out = Out.val (.s (.nat .i64 n)) := by
  obtain rfl := pure_run h
  obtain ⟨h0, hg⟩ := Tr.need_get hg
  exact ⟨of_decide_eq_true h0, oneT_get hg⟩

theorem lenSem_run {t : TypeId} {ts : Array TypeId} {ty : TypeId} {x : AV} {cvx : Value} {tr : Tr Out} {rd : List Nat} {out : Out} (h : (lenSem P t x).run H = some (tr, rd)) (hg : tr.get = some out) (hH : RelH cx Wr β H D w) (hx : RelV cx β x cvx) (ht : ts[0]? = some t) :
    ∃ y, (Builtin.len_ ts ty #[cvx]).run P w = .ok y w ∧ Post cx Wr β H D out y w := by
  unfold lenSem at h
  split at h
  · split at h
    · rename_i hu
      obtain ⟨hn, rfl⟩ := natT_run h hg
      obtain ⟨ba, rfl, rfl⟩ := hx
      refine ⟨.int .i64 (ba.size : Int), ?_, post_val hH (RelV.of1 (v := .s _) ⟨by simp, hn⟩)⟩
      simp [Builtin.len_, ht, run_underlying hu, goInt]
    · exact (fail_run h).elim
  · split at h
    · rename_i e hu
      have key : ∀ n base cap, cvx = .slice base n cap → n < 9223372036854775808 → ∃ y, (Builtin.len_ ts ty #[cvx]).run P w = .ok y w ∧ Post cx Wr β H D (Out.val (.s (.nat .i64 n))) y w := by
        intro n base cap hcv hn
        subst hcv
        refine ⟨.int .i64 (n : Int), ?_, post_val hH (RelV.of1 (v := .s _) ⟨rfl, hn⟩)⟩
        simp [Builtin.len_, ht, run_underlying hu, goInt]
      split at h
      · obtain ⟨hn, rfl⟩ := natT_run h hg
        rcases hx with ⟨rfl, rfl⟩ | ⟨q, cap, y, hq, rfl, _⟩
        · exact key _ _ _ rfl hn
        · exact key _ _ _ rfl hn
      · obtain ⟨hn, rfl⟩ := natT_run h hg
        have hx : cvx = .slice none 0 0 := hx
        exact key _ _ _ hx hn
      · obtain ⟨hn, rfl⟩ := natT_run h hg
        rcases hx with ⟨h0, rfl⟩ | ⟨b, o, cap, rfl, _⟩
        · rw [h0] at hn ⊢; exact key _ _ _ rfl hn
        · exact key _ _ _ rfl hn
      · exact (fail_run h).elim
    · exact (fail_run h).elim
  · exact (fail_run h).elim

theorem minSem_run {ts : Array TypeId} {ty : TypeId} {x y : AV} {cvx cvy : Value} {tr : Tr Out} {rd : List Nat} {out : Out} (h : (minSem x y).run H = some (tr, rd)) (hg : tr.get = some out) (hH : RelH cx Wr β H D w) (hx : RelV cx β x cvx) (hy : RelV cx β y cvy) :
    ∃ z, (Builtin.min_ ts ty #[cvx, cvy]).run P w = .ok z w ∧ Post cx Wr β H D out z w := by
  unfold minSem at h
  split at h
  · rename_i a b
    obtain ⟨hn, rfl⟩ := natT_run h hg
    obtain ⟨rfl, _⟩ := hx
    obtain ⟨rfl, _⟩ := hy
    refine ⟨.int .i64 ((min a b : Nat) : Int), ?_, post_val hH (RelV.of1 (v := .s _) ⟨rfl, hn⟩)⟩
    simp only [Builtin.min_, List.foldlM_cons, List.foldlM_nil, Builtin.min2, Sem.run_bind, Sem.run_pure, Result.andThen_ok]
    congr 2
    split <;> omega
  · exact (fail_run h).elim

end
end Go.Proofs.Ytgebgjhjegadpaa

namespace Go.Proofs.Ytgebgjhjegadpaa
open Go

section
variable {P : Program} {cx : Cx} {Wr : Nat → Prop} {β : Bm} {H : Nat → Option Blk} {D : Nat → Prop} {w : World}

theorem svO_run {o : Option (Tr SV)} {tr : Tr Out} {rd : List Nat} {out : Out} (h : (svO o).run H = some (tr, rd)) (hg : tr.get = some out) : ∃ t v, o = some t ∧ t.get = some v ∧ out = Out.val (.s v) := by
  unfold svO at h
  split at h
  · rename_i t
    obtain rfl := pure_run h
    obtain ⟨v, h1, h2⟩ := Tr.map_get hg
    exact ⟨t, v, rfl, h1, (Option.some.inj h2).symm⟩
  · exact (fail_run h).elim

theorem convI_run {k : IntKind} {v : SV} {src dst : TypeId} {t : Tr SV} {u : SV} {cv : Value} (hs : ∃ d, P.underlying src = some d) (hd : P.underlying dst = some (.int k)) (h : convI k v = some t) (hg : t.get = some u) (hv : RelS cx β v cv) :
    ∃ y, (Go.convert src dst cv).run P w = .ok y w ∧ RelS cx β u y := by
  obtain ⟨d, hsd⟩ := hs
  have hrun : ∀ (k0 : IntKind) (n : Int), (Go.convert src dst (.int k0 n)).run P w = .ok (.int k (k.wrap n)) w := by
    intro k0 n
    cases d <;> simp [Go.convert, run_underlying hsd, run_underlying hd, Conv.intToInt]
  unfold convI at h
  split at h
  · rename_i k0 n
    obtain ⟨rfl, hn⟩ := hv
    split at h
    · rename_i hle
      have hle := Nat.le_of_ble_eq_true hle
      cases h; cases hg
      exact ⟨_, hrun _ _, by rw [wrap_nat (by omega)], by omega⟩
    · split at h
      · rename_i hu
        cases h; cases hg
        refine ⟨_, hrun _ _, ?_, Nat.mod_lt _ (lim_pos _)⟩
        rw [wrap_u hu]; simp
      · cases h
        obtain ⟨h0, hg⟩ := Tr.need_get hg
        cases hg
        have h0 := of_decide_eq_true h0
        exact ⟨_, hrun _ _, by rw [wrap_nat h0], h0⟩
  · rename_i z
    obtain ⟨rfl, hz⟩ := hv
    split at h
    · rename_i hu
      cases h; cases hg
      have hp := lim_pos k
      have h1 : 0 ≤ z % (lim k : Int) := Int.emod_nonneg _ (by omega)
      have h2 : z % (lim k : Int) < (lim k : Int) := Int.emod_lt_of_pos _ (by omega)
      refine ⟨_, hrun _ _, ?_, by omega⟩
      rw [wrap_u hu, Int.toNat_of_nonneg h1]
    · split at h
      · cases h; cases hg
        exact ⟨_, hrun _ _, by rw [wrap_i hz.1 hz.2], hz⟩
      · cases h
  · cases h

theorem convSem_run {nx : Nat} {src dst : TypeId} {x : AV} {cv : Value} {tr : Tr Out} {rd : List Nat} {out : Out} (h : (convSem P nx src dst x).run H = some (tr, rd)) (hg : tr.get = some out) (hH : RelH cx Wr β H D w) (hf : Fresh D out) (hv : RelV cx β x cv) :
    ∃ y w', (Go.convert src dst cv).run P w = .ok y w' ∧ Post cx Wr β H D out y w' := by
  unfold convSem at h
  split at h
  · split at h
    · rename_i d hsd
      have hs : ∃ d, P.underlying src = some d := ⟨d, hsd⟩
      split at h
      · rename_i k hd
        obtain ⟨t, u, h1, h2, rfl⟩ := svO_run h hg
        obtain ⟨y, h3, h4⟩ := convI_run (w := w) hs hd h1 h2 hv
        exact ⟨y, w, h3, post_val hH (RelV.of1 (v := .s _) h4)⟩
      · rename_i hd
        obtain ⟨y, h1, h2⟩ := toStr_run hd h hg hH hv hs
        exact ⟨y, w, h1, h2⟩
      · rename_i e hd
        exact toBytes_run hd h hg hH hf hv hs
      · exact (fail_run h).elim
    · exact (fail_run h).elim
  · exact (fail_run h).elim

theorem avPtrs_rel : ∀ {vs : List AV} {ps : List (Nat × Nat)} {cvs : List Value}, avPtrs vs = some ps → vs.length = cvs.length → (∀ (j : Nat) (v : AV) (cv : Value), vs[j]? = some v → cvs[j]? = some cv → RelV cx β v cv) → RelPs β ps cvs
  | [], ps, cvs, h, hl, _ => by
    simp only [avPtrs, Option.some.injEq] at h
    subst h
    exact List.length_eq_zero_iff.1 (by simpa using hl.symm)
  | v :: vs, ps, cvs, h, hl, hr => by
    cases cvs with
    | nil => simp at hl
    | cons cv cvs =>
      unfold avPtrs at h
      split at h
      · rename_i heq; cases heq
      · rename_i b o vs' heq
        simp only [List.cons.injEq] at heq
        obtain ⟨rfl, rfl⟩ := heq
        split at h
        · rename_i r hr'
          cases h
          exact ⟨cv, cvs, rfl, hr 0 _ _ rfl rfl, avPtrs_rel hr' (by simpa using hl) (fun j v cv h1 h2 => hr (j + 1) v cv (by simpa using h1) (by simpa using h2))⟩
        · cases h
      · cases h

theorem makeFuncSem_run {f : Nat} {first cap : List AV} {cf cc : List Value} {tr : Tr Out} {rd : List Nat} {out : Out} (h : (makeFuncSem f first cap).run H = some (tr, rd)) (hg : tr.get = some out) (hH : RelH cx Wr β H D w)
    (h1 : first.length = cf.length) (h2 : cap.length = cc.length) (r1 : ∀ (j : Nat) (v : AV) (cv : Value), first[j]? = some v → cf[j]? = some cv → RelV cx β v cv) (r2 : ∀ (j : Nat) (v : AV) (cv : Value), cap[j]? = some v → cc[j]? = some cv → RelV cx β v cv) :
    Post cx Wr β H D out (.func (.func f) cf.toArray cc.toArray) w := by
  unfold makeFuncSem at h
  split at h
  · rename_i a ha
    split at h
    · rename_i c hc
      obtain rfl := pure_run h
      obtain rfl := oneT_get hg
      exact post_val hH (RelV.of1 (v := .s _) ⟨cf, cc, rfl, avPtrs_rel ha h1 r1, avPtrs_rel hc h2 r2⟩)
    · exact (fail_run h).elim
  · exact (fail_run h).elim

/-! Slices with their elements. -/
theorem range_rep {zs : Array Value} {n : Nat} (hz : zs.size ≠ 0) : ((Array.range (n * zs.size)).map (zs[· % zs.size]!)).toList = (List.replicate n zs.toList).flatten := by
  apply List.ext_getElem?
  intro i
  by_cases hi : i < n * zs.size
  · have e1 : (List.replicate n zs.toList).flatten[i]? = zs.toList[i % zs.size]? := by
      clear hz
      induction n generalizing i with
      | zero => simp at hi
      | succ n ih =>
        simp only [List.replicate_succ, List.flatten_cons]
        by_cases h : i < zs.size
        · rw [List.getElem?_append_left (by simpa using h), Nat.mod_eq_of_lt h]
        · rw [List.getElem?_append_right (by simp; omega)]
          simp only [Array.length_toList]
          rw [ih (i - zs.size) (by rw [Nat.add_mul] at hi; omega)]
          congr 1
          exact (Nat.mod_eq_sub_mod (by omega)).symm
    rw [e1]
    have hm : i % zs.size < zs.size := Nat.mod_lt _ (by omega)
    simp [hi, hm]
  · have : (List.replicate n zs.toList).flatten.length = n * zs.size := by simp
    rw [List.getElem?_eq_none (by simp; omega), List.getElem?_eq_none (by omega)]

theorem repB_rel {z : List Ch} {l : List Value} (h : RelC cx β z l) : ∀ n, RelC cx β (repB z n) (List.replicate n l).flatten
  | 0 => rfl
  | n + 1 => by simpa [repB, List.replicate_succ] using h.append (repB_rel h n)

theorem repB_size {z : List Ch} : ∀ n, sizeB (repB z n) = n * sizeB z
  | 0 => by simp [repB, sizeB]
  | n + 1 => by
    have h : ∀ a b : List Ch, sizeB (a ++ b) = sizeB a + sizeB b := by
      intro a b
      induction a with
      | nil => simp [sizeB]
      | cons c a ih => simp [sizeB, ih]; omega
    rw [repB, h, repB_size n, Nat.add_mul]; omega

theorem sizeB_app : ∀ a b : List Ch, sizeB (a ++ b) = sizeB a + sizeB b := by
  intro a b
  induction a with
  | nil => simp [sizeB]
  | cons c a ih => simp [sizeB, ih]; omega

theorem subB_size : ∀ {cs : List Ch} {off len : Nat} {r : List Ch}, subB off len cs = some r → sizeB r = len := by
  intro cs
  induction cs with
  | nil =>
    intro off len r h
    unfold subB at h
    split at h
    · rename_i h0; simp at h0; cases h; simp [sizeB, h0]
    · simp at h
  | cons c cs ih =>
    intro off len r h
    unfold subB at h
    split at h
    · rename_i h0; simp at h0; cases h; simp [sizeB, h0]
    · rename_i h0
      have hlen : len ≠ 0 := by intro e; rw [e] at h0; simp at h0
      simp only at h
      split at h
      · exact ih h
      · split at h
        · split at h
          · rename_i r' h'
            cases h
            simp only [sizeB, Ch.size, ih h']
            omega
          · cases h
        · rename_i k n xs _
          have hcut : ∀ m, (cutI k n xs off m).size = m := by
            intro m
            unfold cutI
            split
            · rename_i hb
              simp only [Bool.and_eq_true, Nat.beq_eq] at hb
              exact hb.2.symm
            · rfl
          split at h
          · cases h
            simp [sizeB, hcut]
          · rename_i hb
            have hb' : n - off < len := by
              rcases Nat.lt_or_ge (n - off) len with h | h
              · exact h
              · rw [Nat.ble_eq_true_of_le h] at hb; cases hb
            split at h
            · rename_i r' h'
              cases h
              simp only [sizeB, hcut, ih h']
              omega
            · cases h

theorem putB0_size {cs new r : List Ch} {off : Nat} (h : putB0 off new cs = some r) : sizeB r = sizeB cs := by
  have hle := putB0_le h
  unfold putB0 at h
  split at h
  · split at h
    · rename_i a b ha hb
      cases h
      rw [sizeB_app, sizeB_app, subB_size ha, subB_size hb]
      omega
    · cases h
  · cases h

theorem putB_size {cs new r : List Ch} {off : Nat} (h : putB off new cs = some r) : sizeB r = sizeB cs := by
  rcases putB_cases h with h | ⟨k, x, n, xs, rfl, rfl, ho, rfl⟩
  · exact putB0_size h
  · rfl

theorem fillB_size {f : Nat → Option (Nat × Nat)} : ∀ {ps : List (Nat × AV)} {cs r : List Ch}, fillB f ps cs = some r → sizeB r = sizeB cs := by
  intro ps
  induction ps with
  | nil => intro cs r h; cases h; rfl
  | cons p ps ih =>
    intro cs r h
    obtain ⟨i, v⟩ := p
    unfold fillB at h
    split at h
    · split at h
      · split at h
        · rename_i cs' hput
          rw [ih h, putB_size hput]
        · cases h
      · cases h
    · cases h

theorem rowO_run {nx n sz : Nat} {o : Option (List Ch)} {tr : Tr Out} {rd : List Nat} {out : Out} (h : (rowO nx n sz o).run H = some (tr, rd)) (hg : tr.get = some out) : ∃ cs, o = some cs ∧ out = ⟨.s (.sl .whole nx 0 n sz), [], [(nx, cs)]⟩ := by
  unfold rowO at h
  split at h
  · obtain rfl := pure_run h; exact ⟨_, rfl, leaf_get hg⟩
  · exact (fail_run h).elim

theorem onesI_rel {k : IntKind} : ∀ {ps : List (Nat × AV)} {j : Nat} {xs : List Nat} {vs : List (Nat × Value)}, onesI k ps j = some xs → ps.length = vs.length → (∀ (i : Nat) (p : Nat × AV), ps[i]? = some p → ∃ cv, vs[i]? = some (p.1, cv) ∧ RelV cx β p.2 cv) →
    (∀ x ∈ xs, x < lim k) ∧ xs.length = vs.length ∧ ∀ (i x : Nat), xs[i]? = some x → vs[i]? = some (j + i, .int k x) := by
  intro ps
  induction ps with
  | nil =>
    intro j xs vs h hl hp
    simp only [onesI, Option.some.injEq] at h
    subst h
    exact ⟨by simp, by simpa using hl, fun i x e => by simp at e⟩
  | cons p ps ih =>
    intro j xs vs h hl hp
    cases vs with
    | nil => simp at hl
    | cons q vs =>
      simp only [onesI] at h
      split at h
      · rename_i k' x hp2
        split at h
        · rename_i hb
          simp only [Bool.and_eq_true, decide_eq_true_eq, Nat.beq_eq] at hb
          obtain ⟨rfl, hpj⟩ := hb
          split at h
          · rename_i xs' hr
            cases h
            obtain ⟨cv, h1, h2⟩ := hp 0 _ rfl
            rw [hp2] at h2
            obtain ⟨rfl, hx⟩ := h2
            simp only [List.getElem?_cons_zero, Option.some.injEq] at h1
            subst h1
            obtain ⟨a1, a2, a3⟩ := ih hr (by simpa using hl) (fun i p e => by simpa using hp (i + 1) p (by simpa using e))
            refine ⟨by simpa [hx] using a1, by simpa using a2, fun n y e => ?_⟩
            cases n with
            | zero =>
              simp only [List.getElem?_cons_zero, Option.some.injEq] at e
              subst e; subst hpj; rfl
            | succ n =>
              have := a3 n y (by simpa using e)
              simp only [List.getElem?_cons_succ]
              rw [this]
              congr 2
              omega
          · cases h
        · cases h
      · cases h

/-- The model's filling of a row by one number after the other. -/
theorem fill_ones {g : Nat → Option (Nat × Nat)} (hg : ∀ i, g i = some (i * 1, 1)) : ∀ (vs : List (Nat × Value)) (j : Nat) (xs : List Value) (c : Array Value), (∀ (i : Nat) (v : Value), xs[i]? = some v → vs[i]? = some (j + i, v)) → xs.length = vs.length → (∀ v ∈ xs, v.oneCell' = true) → j + xs.length = c.size →
    ∃ c', Instr.fill g c vs = some c' ∧ c'.toList = c.toList.take j ++ xs := by
  intro vs
  induction vs with
  | nil =>
    intro j xs c _ hl _ hj
    obtain rfl : xs = [] := List.length_eq_zero_iff.1 (by simpa using hl)
    exact ⟨c, rfl, by simp at hj; simp [List.take_of_length_le (show c.toList.length ≤ j by simp; omega)]⟩
  | cons p vs ih =>
    intro j xs c hx hl h1 hj
    cases xs with
    | nil => simp at hl
    | cons x xs =>
      have := hx 0 x rfl
      simp only [List.getElem?_cons_zero, Nat.add_zero, Option.some.injEq] at this
      subst this
      have hc := oneCell_cells (h1 x (List.mem_cons_self))
      simp only [List.length_cons] at hj
      obtain ⟨c', h2, h3⟩ := ih (j + 1) xs (c.setIfInBounds j x) (fun i v e => by have := hx (i + 1) v (by simpa using e); simp only [List.getElem?_cons_succ] at this; rw [this]; congr 2; omega) (by simpa using hl) (fun v hv => h1 v (List.mem_cons_of_mem _ hv)) (by simp; omega)
      refine ⟨c', ?_, ?_⟩
      · simp only [Instr.fill, hg, hc, Nat.mul_one]
        have : ¬ ((#[x] : Array Value).size ≠ 1 ∨ j + (#[x] : Array Value).size > c.size) := by simp; omega
        rw [if_neg (by simpa using this)]
        simpa using h2
      · rw [h3]
        simp only [Array.toList_setIfInBounds]
        have hlt : j < c.toList.length := by simp; omega
        rw [List.set_eq_take_append_cons_drop, if_pos hlt, List.take_append]
        have hA : (c.toList.take j).length = j := by simp; omega
        rw [hA, List.take_of_length_le (by omega), show j + 1 - j = 1 by omega]
        simp

theorem buildSliceSem_run {t : TypeId} {nx n : Nat} {ps : List (Nat × AV)} {vs : Array (Nat × Value)} {tr : Tr Out} {rd : List Nat} {out : Out} (h : (buildSliceSem P nx t n ps).run H = some (tr, rd)) (hg : tr.get = some out) (hH : RelH cx Wr β H D w) (hf : Fresh D out)
    (hp : ∀ (j : Nat) (p : Nat × AV), ps[j]? = some p → ∃ cv, vs.toList[j]? = some (p.1, cv) ∧ RelV cx β p.2 cv) (hl : ps.length = vs.toList.length) :
    ∃ x w', (Instr.buildSlice t n vs).run P w = .ok x w' ∧ Post cx Wr β H D out x w' := by
  unfold buildSliceSem at h
  split at h
  · rename_i e hu
    split at h
    · exact (fail_run h).elim
    · rename_i hbig
      have hbig : n < 65536 := by
        rcases Nat.lt_or_ge n 65536 with h | h
        · exact h
        · rw [Nat.ble_eq_true_of_le h] at hbig; cases hbig
      split at h
      · rename_i hpn
        have hpn := Nat.eq_of_beq_eq_true hpn
        have hfin : ∀ (sz : Nat) (cs : List Ch) (c' : Array Value), out = ⟨.s (.sl .whole nx 0 n sz), [], [(nx, cs)]⟩ → RelC cx β cs c'.toList → c'.size = n * sz → (Instr.buildSlice t n vs).run P w = .ok (.slice (some ⟨w.heap.size, 0, none⟩) n n) (w.alloc (.cells c' e)) →
            ∃ x w', (Instr.buildSlice t n vs).run P w = .ok x w' ∧ Post cx Wr β H D out x w' := by
          intro sz cs c' ho hcs hsize hrun
          subst ho
          have hfn : ¬ D nx := hf nx (by simp [lkF_self])
          have h1 := hH.alloc hfn (T := e) hcs (c := c') (by simp) (fun i v hv => by simpa using hv)
          rw [hsize] at h1
          refine ⟨_, _, hrun, β.put nx ⟨w.heap.size, 0, n * sz⟩, Bm.ext_put (hH.none_of_fresh hfn), .inr ⟨⟨w.heap.size, 0, n * sz⟩, n, 0, by simp [Bm.put], rfl, fun _ => rfl, Nat.le_refl _, by simp⟩, ?_⟩
          rw [happ_new, dapp_new]
          exact h1
        have hrun : ∀ (i : TypeInfo) (z : Value) (c' : Array Value), P.info? e = some i → i.zero = some z → i.size ≤ 256 → Instr.fill (fun j => some (j * i.size, i.size)) (madeCells z.cells (n * i.size)) vs.toList = some c' →
            (Instr.buildSlice t n vs).run P w = .ok (.slice (some ⟨w.heap.size, 0, none⟩) n n) (w.alloc (.cells c' e)) := by
          intro i z c' hi hz hsm hfill
          have hle : ¬ (16777216 < n * i.size) := by
            have := Nat.mul_le_mul (Nat.le_of_lt_succ hbig) hsm
            omega
          by_cases h0 : n * i.size = 0
          · have e0 : ∀ f : Nat → Value, (Array.range 0).map f = #[] := fun f => by simp
            simp only [h0, madeCells, e0] at hfill
            simp only [Instr.buildSlice, Sem.run_bind, run_underlying hu, Result.andThen_ok, sizeOf, typeInfo, run_program, hi, Sem.run_pure, h0, e0, if_true]
            simp [hfill, newRow]
          · simp only [madeCells] at hfill
            simp [Instr.buildSlice, run_underlying hu, sizeOf, typeInfo, hi, hle, h0, zeroValue, hz, hfill, newRow]
        split at h
        · rename_i k hk
          obtain ⟨cs, hcs, ho⟩ := rowO_run h hg
          unfold onesO at hcs
          split at hcs
          · rename_i xs hxs
            cases hcs
            obtain ⟨a1, a2, a3⟩ := onesI_rel hxs hl hp
            obtain ⟨e', i, hu', hke, hi, hsz, hby, hz, hcp⟩ := elemInt_spec hk
            rw [hu] at hu'
            cases hu'
            have hvn : vs.toList.length = n := by omega
            obtain ⟨c', h2, h3⟩ := fill_ones (g := fun j => some (j * 1, 1)) (fun _ => rfl) vs.toList 0 (xs.map fun x : Nat => Value.int k x) (madeCells (Value.int k 0).cells (n * 1)) (fun i v e => by
              rw [List.getElem?_map, Option.map_eq_some_iff] at e
              obtain ⟨x, hx, rfl⟩ := e
              exact a3 i x hx) (by simpa using a2) (map_oneCell xs) (by rw [size_madeCells]; simp; omega)
            refine hfin 1 _ c' ho ?_ ?_ (hrun i _ c' hi hz (by omega) (by rw [hsz]; exact h2))
            · rw [h3]
              simpa using relC_one (cx := cx) (β := β) (k := k) (n := n) (xs := xs) (by omega) a1
            · have := congrArg List.length h3
              simp at this
              omega
          · cases hcs
        · split at h
          · rename_i z hz
            split at h
            · rename_i sz hsz
              split at h
              · rename_i h256
                have h256 := Nat.le_of_ble_eq_true h256
                obtain ⟨cs, hcs, ho⟩ := rowO_run h hg
                obtain ⟨i, zv, hi, hzv, hr⟩ := zeroB_info hz
                obtain ⟨i', hi', hsize⟩ := tySize_info hsz
                rw [hi] at hi'
                cases hi'
                have hzl : zv.cells.size = sizeB z := by have := (hr cx β).length; simpa using this
                split at hcs
                · rename_i hsz1
                  simp only [Bool.and_eq_true, Nat.beq_eq] at hsz1
                  obtain ⟨hz1, hz2⟩ := hsz1
                  have hz2 := Nat.le_of_ble_eq_true hz2
                  have hzs : zv.cells.size = sz := by omega
                  obtain ⟨c', h1, h2⟩ := fillB_run (cx := cx) (β := β) (g := fun i => some (i * sz, sz)) (fun i p hi => hi) ps vs.toList (repB z n) cs (madeCells zv.cells (n * sz)) hcs (by
                    have e2 : (madeCells zv.cells (n * sz)).toList = (List.replicate n zv.cells.toList).flatten := by rw [← hzs]; exact range_rep (by omega)
                    rw [e2]
                    exact repB_rel (hr cx β) n) hp hl
                  refine hfin sz cs c' ho h2 ?_ (hrun i zv c' hi hzv (by omega) (by rw [hsize]; exact h1))
                  have h3 := h2.length
                  have h4 := fillB_size hcs
                  simp only [Array.length_toList] at h3
                  rw [h3, h4, repB_size, hz1]
                · cases hcs
              · exact (fail_run h).elim
            · exact (fail_run h).elim
          · exact (fail_run h).elim
      · exact (fail_run h).elim
  · exact (fail_run h).elim

/-! Equality of arrays of numbers. -/
theorem all_getD : ∀ (xs ys : List Nat), xs.length = ys.length → ((List.range xs.length).all fun i => decide (xs.getD i 0 = ys.getD i 0)) = decide (xs = ys)
  | [], [], _ => rfl
  | [], _ :: _, h => by simp at h
  | _ :: _, [], h => by simp at h
  | x :: xs, y :: ys, h => by
    have ih := all_getD xs ys (by simpa using h)
    have e : (List.range (x :: xs).length) = 0 :: (List.range xs.length).map (· + 1) := by
      rw [List.length_cons, List.range_succ_eq_map]
    rw [e, List.all_cons, List.all_map, Bool.eq_iff_iff]
    have ih2 : ((List.range xs.length).all ((fun i => decide ((x :: xs).getD i 0 = (y :: ys).getD i 0)) ∘ (· + 1))) = decide (xs = ys) := ih
    rw [ih2]
    simp

theorem int_getD {k : IntKind} {xs : List Nat} {e : TypeId} {j : Nat} (he : P.underlying e = some (.int k)) (hj : j < xs.length) : (part e (xs.map fun x : Nat => Value.int k x).toArray (j * 1)).run P w = .ok (.int k ((xs.getD j 0 : Nat) : Int)) w := by
  have h1 : isAggT P e = some false := by simp [isAggT, he]
  refine getC_part h1 ?_
  simp [List.getD, List.getElem?_eq_getElem hj]

theorem run_equalIn_arr {t e : TypeId} {n : Nat} {k : IntKind} (ht : P.underlying t = some (.array n e)) (he : P.underlying e = some (.int k)) (hsz : tySize P e = some 1) (d : Nat) {xs ys : List Nat} (hx : xs.length = n) (hy : ys.length = n) :
    (Op.equalIn (d + 2) t (.agg (xs.map fun x : Nat => Value.int k x).toArray) (.agg (ys.map fun x : Nat => Value.int k x).toArray)).run P w = .ok (decide (xs = ys)) w := by
  rw [← all_getD xs ys (hx.trans hy.symm), hx, List.range_eq_range', Op.equalIn]
  simp only [Sem.run_bind, run_underlying ht, Result.andThen_ok, run_sizeOf' hsz, Std.Legacy.Range.forIn_eq_forIn_range', Std.Legacy.Range.size, Nat.sub_zero, Nat.add_sub_cancel, Nat.div_one]
  have hin : ∀ j ∈ List.range' 0 n 1, j < n := fun j hj => by simpa using (List.mem_range'_1.1 hj).2
  generalize List.range' 0 n 1 = js at hin ⊢
  induction js with
  | nil => simp
  | cons j js ih =>
    have hj : j < n := hin j (by simp)
    have hE : (Op.equalIn (d + 1) e (.int k ((xs.getD j 0 : Nat) : Int)) (.int k ((ys.getD j 0 : Nat) : Int))).run P w = .ok (decide (xs.getD j 0 = ys.getD j 0)) w := by
      rw [run_equalIn_int w d e k k _ _ he]
      congr 1
      rw [Bool.eq_iff_iff]
      simp only [beq_iff_eq, decide_eq_true_eq]
      omega
    simp only [List.forIn_cons, Sem.run_bind, int_getD he (hx ▸ hj : j < xs.length), int_getD he (hy ▸ hj : j < ys.length), hE, Result.andThen_ok, List.all_cons]
    cases decide (xs.getD j 0 = ys.getD j 0)
    · simp
    · simp only [Bool.not_true, Bool.false_eq_true, if_false, Sem.run_pure, Result.andThen_ok, Bool.true_and]
      exact ih fun i hi => hin i (by simp [hi])

theorem eqAgg_spec {t : TypeId} {a b : List Ch} {r : Bool} {la lb : List Value} (h : eqAgg P t a b = some r) (ha : RelC cx β a la) (hb : RelC cx β b lb) :
    P.eqGuardType P.depth t = false ∧ ∀ d, (Op.equalIn (d + 2) t (.agg la.toArray) (.agg lb.toArray)).run P w = .ok r w := by
  unfold eqAgg at h
  split at h
  · rename_i k n xs k' n' ys
    split at h
    · rename_i hk
      simp only [Bool.and_eq_true, decide_eq_true_eq, Nat.beq_eq] at hk
      obtain ⟨rfl, rfl⟩ := hk
      split at h
      · rename_i m e hu
        split at h
        · rename_i k'' hm he
          obtain rfl : n = m := Nat.eq_of_beq_eq_true hm
          split at h
          · rename_i hsz hkk hgu
            obtain rfl : k = k'' := of_decide_eq_true hkk
            cases h
            obtain ⟨h1, h2, l1, rfl, rfl⟩ := ha
            obtain ⟨h3, h4, l2, rfl, rfl⟩ := hb
            exact ⟨hgu, fun d => by simpa using run_equalIn_arr (P := P) (w := w) hu he hsz d h1 h3⟩
          · cases h
        · cases h
      · cases h
    · cases h
  · cases h

theorem eqO_run {op : BinOp} {o : Option Bool} {tr : Tr Out} {rd : List Nat} {out : Out} (h : (eqO op o).run H = some (tr, rd)) (hg : tr.get = some out) :
    ∃ t, o = some t ∧ (op = .eql ∧ out = Out.val (.s (.bool t)) ∨ op = .neq ∧ out = Out.val (.s (.bool (!t)))) := by
  unfold eqO at h
  split at h
  · rename_i t
    split at h
    · obtain rfl := pure_run h; exact ⟨t, rfl, .inl ⟨rfl, oneT_get hg⟩⟩
    · obtain rfl := pure_run h; exact ⟨t, rfl, .inr ⟨rfl, oneT_get hg⟩⟩
    · exact (fail_run h).elim
  · exact (fail_run h).elim

theorem guard_one {op : BinOp} {t : TypeId} {x y : Operand} {a b : Value} (h : ∀ c d, a = .agg c → b ≠ .agg d) (h2 : a ≠ .nilIface) : (eqGuard op t x y a b).run P w = .ok () w := by
  have key : (match a, b with
    | .nilIface, .nilIface => (if (x matches .const _) || (y matches .const _) then pure () else do
        if ← Op.eqGuardIn Op.maxDepth t a b then unsupported (.noEntry "binop/eql: two nil values of an interface type with methods, neither of them the literal nil") : Sem Unit)
    | .agg _, .agg _ => do
      if !(← program).eqGuardType (← program).depth t then return
      if ← Op.eqGuardIn Op.maxDepth t a b then unsupported (.noEntry "binop/eql: two nil values of an interface type with methods, in a part of a struct or an array")
    | _, _ => pure ()).run P w = .ok () w := by
    cases a <;> first | (exact absurd rfl h2) | rfl | (cases b <;> first | rfl | exact absurd rfl (h _ _ rfl))
  unfold eqGuard
  split
  · exact key
  · exact key
  · rfl

theorem binOpSem_run {m : SubMode} {op : BinOp} {t : TypeId} {x y : AV} {ox oy : Operand} {cvx cvy : Value} {tr : Tr Out} {rd : List Nat} {out : Out} (h : (binOpSem P m op t x y).run H = some (tr, rd)) (hg : tr.get = some out) (hH : RelH cx Wr β H D w) (hx : RelV cx β x cvx) (hy : RelV cx β y cvy) :
    ∃ z, (do Go.eqGuard op t ox oy cvx cvy; Go.binOp op t cvx cvy : Sem Value).run P w = .ok z w ∧ Post cx Wr β H D out z w := by
  unfold binOpSem at h
  split at h
  · rename_i a b
    have hx : cvx = .bool a := hx
    have hy : cvy = .bool b := hy
    subst hx hy
    split at h
    · rename_i hu
      obtain ⟨r, hr, ho⟩ := eqO_run h hg
      cases hr
      have hgd := guard_one (P := P) (w := w) (op := op) (t := t) (x := ox) (y := oy) (a := .bool a) (b := .bool b) (by simp) (by simp)
      have he : (Op.equal t (.bool a) (.bool b)).run P w = .ok (a == b) w := run_equalIn_bool' w 9999 t a b hu
      rcases ho with ⟨rfl, rfl⟩ | ⟨rfl, rfl⟩
      · exact ⟨.bool (a == b), by simp only [Sem.run_bind, hgd, Result.andThen_ok, Go.binOp, he, Sem.run_pure], post_val hH (RelV.of1 (v := .s _) rfl)⟩
      · exact ⟨.bool (!(a == b)), by simp only [Sem.run_bind, hgd, Result.andThen_ok, Go.binOp, he, Sem.run_pure], post_val hH (RelV.of1 (v := .s _) rfl)⟩
    · exact (fail_run h).elim
  · rename_i a b _
    obtain ⟨t', v, h1, h2, rfl⟩ := svO_run h hg
    obtain ⟨cv, h3, h4⟩ := binSem_run (P := P) (w := w) (ty := t) hx hy h1 h2
    have hgd : (eqGuard op t ox oy cvx cvy).run P w = .ok () w := by
      refine guard_one (fun c d e => ?_) (fun e => ?_)
      · subst e; have := RelS.oneCell hx; simp [Value.oneCell'] at this
      · subst e
        cases a <;> simp [RelV, RelV1, RelS, RelP, RelX] at hx <;> simp [binSem] at h1
    exact ⟨cv, by simp only [Sem.run_bind, hgd, Result.andThen_ok, h3], post_val hH (RelV.of1 (v := .s _) h4)⟩
  · rename_i a b
    obtain ⟨la, rfl, hla⟩ := hx
    obtain ⟨lb, rfl, hlb⟩ := hy
    obtain ⟨r, hr, ho⟩ := eqO_run h hg
    obtain ⟨hgt, he⟩ := eqAgg_spec (w := w) hr hla hlb
    have hgd := run_eqGuard_agg (P := P) w op t ox oy la.toArray lb.toArray hgt
    rcases ho with ⟨rfl, rfl⟩ | ⟨rfl, rfl⟩
    · exact ⟨.bool r, by simp only [Sem.run_bind, hgd, Result.andThen_ok, run_eql_struct, he 9998], post_val hH (RelV.of1 (v := .s _) rfl)⟩
    · exact ⟨.bool (!r), by simp only [Sem.run_bind, hgd, Result.andThen_ok, run_neq_struct, he 9998], post_val hH (RelV.of1 (v := .s _) rfl)⟩
  · exact (fail_run h).elim

end
end Go.Proofs.Ytgebgjhjegadpaa

namespace Go.Proofs.Ytgebgjhjegadpaa
open Go

section
variable {P : Program} {cx : Cx} {Wr : Nat → Prop} {β : Bm} {H : Nat → Option Blk} {D : Nat → Prop} {w : World}

/-- What is asked of a call. -/
def CallOk (cx : Cx) (Wr : Nat → Prop) (P : Program) (β : Bm) (H : Nat → Option Blk) (D : Nat → Prop) (w : World) (f : Nat) (cargs : List Value) (out : Out) : Prop :=
  (∃ fn b, P.funcs[f]? = some fn ∧ fn.body = some b ∧ fn.name ≠ "runtime.NumGoroutine") ∧ Calls P f cargs.toArray w (fun e w' => ∃ cv, e = .returned cv ∧ Post cx Wr β H D out cv w') ∨
  ∃ cv, (callFunc f cargs.toArray).run P w = .ok (.value cv) w ∧ Post cx Wr β H D out cv w

theorem upon_val {o : Oper} {a : Act} {K : Act → World → Prop} {Q : Exit → Act → World → Prop} {m : Sem Value} {cv : Value} {w' : World} (h : m.run P w = .ok cv w') (hn : K (a.put o.dst cv) w') :
    o.upon P a K Q ((do pure (Next.value (← m)) : Sem Next).run P w) := by
  simp only [Sem.run_bind, h, Result.andThen_ok, Sem.run_pure]
  exact hn

theorem upon_unit {o : Oper} {a : Act} {K : Act → World → Prop} {Q : Exit → Act → World → Prop} {m : Sem Unit} {w' : World} (h : m.run P w = .ok () w') (hn : K (a.put o.dst undef) w') :
    o.upon P a K Q ((do m; pure Next.skip : Sem Next).run P w) := by
  simp only [Sem.run_bind, h, Result.andThen_ok, Sem.run_pure]
  exact hn

theorem parts_rel {ρ : Operand → AV} {a : Act} (hρ : ∀ x, RelV cx β (ρ x) (a.eval x)) (ps : Array (Nat × Operand)) :
    (∀ (j : Nat) (p : Nat × AV), (partsAV ρ ps)[j]? = some p → ∃ cv, ((ps.map fun (i, x) => (i, a.eval x)).toList)[j]? = some (p.1, cv) ∧ RelV cx β p.2 cv) ∧ (partsAV ρ ps).length = (ps.map fun (i, x) => (i, a.eval x)).toList.length := by
  refine ⟨fun j p h => ?_, by simp [partsAV]⟩
  simp only [partsAV, List.getElem?_map, Option.map_eq_some_iff] at h
  obtain ⟨q, hq, rfl⟩ := h
  refine ⟨a.eval q.2, ?_, hρ q.2⟩
  simp only [Array.toList_map, List.getElem?_map, hq, Option.map_some]

theorem refAV_rel {ρ : Operand → AV} {a : Act} (hρ : ∀ x, RelV cx β (ρ x) (a.eval x)) (x : Option Operand) : RelO cx β (refAV ρ x) (x.map a.eval) := by
  cases x with
  | none => trivial
  | some x => exact hρ x

theorem map_rel {ρ : Operand → AV} {a : Act} (hρ : ∀ x, RelV cx β (ρ x) (a.eval x)) (xs : Array Operand) : (xs.toList.map ρ).length = (xs.map a.eval).toList.length ∧ ∀ (j : Nat) (v : AV) (cv : Value), (xs.toList.map ρ)[j]? = some v → (xs.map a.eval).toList[j]? = some cv → RelV cx β v cv := by
  refine ⟨by simp, fun j v cv h1 h2 => ?_⟩
  simp only [List.getElem?_map, Option.map_eq_some_iff] at h1
  obtain ⟨x, hx, rfl⟩ := h1
  simp only [Array.toList_map, List.getElem?_map, hx, Option.map_some, Option.some.injEq] at h2
  subst h2
  exact hρ x

theorem ptrsAV_rel : ∀ {ps : List (Nat × Nat)} {l : List Value}, RelPs β ps l → (ptrsAV ps).length = l.length ∧ ∀ (j : Nat) (v : AV) (cv : Value), (ptrsAV ps)[j]? = some v → l[j]? = some cv → RelV cx β v cv
  | [], l, h => by rw [h]; exact ⟨rfl, fun j v cv e => by simp [ptrsAV] at e⟩
  | p :: ps, l, ⟨cv0, l', e, h1, h2⟩ => by
    subst e
    obtain ⟨a1, a2⟩ := ptrsAV_rel h2
    refine ⟨by simp [ptrsAV, a1], fun j v cv e1 e2 => ?_⟩
    cases j with
    | zero =>
      simp only [ptrsAV, List.getElem?_cons_zero, Option.some.injEq] at e1 e2
      subst e1; subst e2
      exact h1
    | succ j => exact a2 j v cv (by simpa [ptrsAV] using e1) (by simpa using e2)

theorem app_rel {as bs : List AV} {l m : List Value} (h0 : as.length = l.length) (h1 : ∀ (j : Nat) (v : AV) (cv : Value), as[j]? = some v → l[j]? = some cv → RelV cx β v cv) (h2 : ∀ (j : Nat) (v : AV) (cv : Value), bs[j]? = some v → m[j]? = some cv → RelV cx β v cv) :
    ∀ (j : Nat) (v : AV) (cv : Value), (as ++ bs)[j]? = some v → (l ++ m)[j]? = some cv → RelV cx β v cv := by
  intro j v cv e1 e2
  by_cases hj : j < as.length
  · rw [List.getElem?_append_left hj] at e1
    rw [List.getElem?_append_left (by omega)] at e2
    exact h1 j v cv e1 e2
  · rw [List.getElem?_append_right (by omega)] at e1
    rw [List.getElem?_append_right (by omega)] at e2
    rw [h0] at e1
    exact h2 _ v cv e1 e2

theorem upon_call {o : Oper} {a : Act} {K : Act → World → Prop} {Q : Exit → Act → World → Prop} {f : Nat} {cargs : List Value} {out : Out} (h : CallOk cx Wr P β H D w f cargs out) (hK : ∀ cv w', Post cx Wr β H D out cv w' → K (a.put o.dst cv) w') :
    o.upon P a K Q ((callFunc f cargs.toArray).run P w) := by
  rcases h with ⟨⟨fn, b, hf, hb, hn⟩, hc⟩ | ⟨cv, hr, hp⟩
  · have : (callFunc f cargs.toArray).run P w = .ok (.enter f cargs.toArray) w := by
      simp [callFunc, hf, hb, hn]
    rw [this]
    refine hc.mono ?_
    rintro e w' ⟨cv, rfl, hp⟩
    exact hK cv w' hp
  · rw [hr]
    exact hK cv w hp

theorem op_sound {E : Env} {m : SubMode} {ρ : Operand → AV} {nx : Nat} {o : Oper} {a : Act} {tr : Tr Out} {rd : List Nat} {out : Out} {K : Act → World → Prop} {Q : Exit → Act → World → Prop} (hρ : ∀ x, RelV cx β (ρ x) (a.eval x))
    (h : (opSem E m ρ nx o.op).run H = some (tr, rd)) (hg : tr.get = some out) (hH : RelH cx Wr β H D w) (hf : Fresh D out)
    (hcall : ∀ f ts args cargs tr' rd', (callSem E f ts nx args).run H = some (tr', rd') → tr'.get = some out → args.length = cargs.length → (∀ (j : Nat) (v : AV) (cv : Value), args[j]? = some v → cargs[j]? = some cv → RelV cx β v cv) → CallOk cx Wr E.P β H D w f cargs out)
    (hK : ∀ cv w', Post cx Wr β H D out cv w' → K (a.put o.dst cv) w') : o.wp E.P a w K Q := by
  obtain ⟨dst, op, type, pos, after, guard⟩ := o
  have hval : ∀ {m : Sem Value} {cv : Value} {w' : World}, m.run E.P w = .ok cv w' → Post cx Wr β H D out cv w' → (Oper.mk dst op type pos after guard).upon E.P a K Q ((do pure (Next.value (← m)) : Sem Next).run E.P w) :=
    fun h hp => upon_val h (hK _ _ hp)
  unfold Oper.wp
  cases op
  case move x =>
    obtain rfl := pure_run h
    obtain rfl := leaf_get hg
    exact hK _ _ (post_val hH (hρ x))
  case assign x =>
    obtain rfl := pure_run h
    obtain rfl := leaf_get hg
    exact hK _ _ (post_val hH (hρ x))
  case pick c x y =>
    obtain ⟨t, ht, hp⟩ := pickSem_run h hg hH (hρ c) (hρ x) (hρ y)
    simp only [execOp, ht, Sem.run_bind, asBool, Sem.run_pure, Result.andThen_ok]
    exact hK _ _ hp
  case alloc t =>
    obtain ⟨x, w', h1, h2⟩ := alloc_run (P := E.P) (t := t) h hg hH hf
    exact hval h1 h2
  case box t x =>
    obtain ⟨y, w', h1, h2⟩ := box_run (P := E.P) (t := t) h hg hH (hρ x) hf
    exact hval h1 h2
  case build t ps =>
    obtain ⟨y, h1, h2⟩ := buildSem_run h hg hH (parts_rel hρ ps).1 (parts_rel hρ ps).2
    exact hval h1 h2
  case buildSlice t n ps =>
    obtain ⟨y, w', h1, h2⟩ := buildSliceSem_run h hg hH hf (parts_rel hρ ps).1 (parts_rel hρ ps).2
    exact hval h1 h2
  case load t x =>
    obtain ⟨y, h1, h2⟩ := loadSem_run h hg hH (hρ x)
    exact hval h1 h2
  case store t x y =>
    obtain ⟨w', h1, h2⟩ := storeSem_run h hg hH (hρ x) (hρ y)
    exact upon_unit h1 (hK _ _ h2)
  case nilCheck x =>
    obtain ⟨⟨p, hp⟩, h2⟩ := nilCheckSem_run h hg hH (hρ x)
    simp only [execOp, hp] at h2 ⊢
    exact hK _ _ h2
  case binOp op t x y yt =>
    obtain ⟨z, h1, h2⟩ := binOpSem_run (ox := x) (oy := y) h hg hH (hρ x) (hρ y)
    exact hval h1 h2
  case unOp op t x =>
    obtain ⟨z, h1, h2⟩ := unSem_run (P := E.P) h hg hH (hρ x)
    exact hval h1 h2
  case convert src dst' x =>
    obtain ⟨z, w', h1, h2⟩ := convSem_run h hg hH hf (hρ x)
    exact hval h1 h2
  case sliceToArrayPointer t x =>
    obtain ⟨z, h1, h2⟩ := toArrSem_run h hg hH (hρ x)
    exact hval h1 h2
  case makeFunc fn first cap =>
    cases fn
    case func f =>
      have h2 := makeFuncSem_run (cf := (first.map a.eval).toList) (cc := (cap.map a.eval).toList) h hg hH (map_rel hρ first).1 (map_rel hρ cap).1 (map_rel hρ first).2 (map_rel hρ cap).2
      simp only [Array.toArray_toList] at h2
      refine hval (m := Instr.makeFunc (.func f) (first.map a.eval) (cap.map a.eval)) ?_ h2
      rfl
    all_goals exact (fail_run h).elim
  case makeSlice t l c =>
    obtain ⟨z, w', h1, h2⟩ := makeSliceSem_run h hg hH hf (hρ l) (hρ c)
    exact hval h1 h2
  case slice t x lo hi mx =>
    cases mx
    case none =>
      obtain ⟨z, h1, h2⟩ := sliceSem_run h hg hH (hρ x) (refAV_rel hρ lo) (refAV_rel hρ hi)
      exact hval h1 h2
    case some _ => exact (fail_run h).elim
  case fieldAddr t x f =>
    obtain ⟨z, h1, h2⟩ := fieldAddrSem_run h hg hH (hρ x)
    exact hval h1 h2
  case field t x f =>
    obtain ⟨z, h1, h2⟩ := fieldSem_run h hg hH (hρ x)
    exact hval h1 h2
  case indexAddr t x i =>
    obtain ⟨z, h1, h2⟩ := indexAddrSem_run h hg hH (hρ x) (hρ i)
    exact hval h1 h2
  case index t x i =>
    obtain ⟨z, h1, h2⟩ := indexSem_run h hg hH (hρ x) (hρ i)
    exact hval h1 h2
  case extract x i =>
    obtain ⟨z, h1, h2⟩ := extractSem_run (P := E.P) h hg hH (hρ x)
    exact hval h1 h2
  case call c =>
    have h : (callOp E nx ρ c).run H = some (tr, rd) := h
    unfold callOp at h
    split at h
    · rename_i f hcal
      have h1 := hcall f _ _ ((c.args.map a.eval).toList) _ _ h hg (map_rel hρ c.args).1 (map_rel hρ c.args).2
      have h2 := upon_call (o := ⟨dst, .call c, type, pos, after, guard⟩) (a := a) (Q := Q) h1 hK
      simp only [Array.toArray_toList] at h2
      simp only [execOp, resolve, hcal, Act.eval, Deferred.ofValue, Sem.run_bind, Sem.run_pure, Result.andThen_ok, Go.invoke]
      simpa using h2
    · rename_i f _ hcal
      split at h
      · rename_i g first cap hfv
        have hv := hρ f
        rw [hfv] at hv
        obtain ⟨l1, l2, he, hr1, hr2⟩ := hv
        have hp1 := ptrsAV_rel (cx := cx) hr1
        have hp2 := ptrsAV_rel (cx := cx) hr2
        have hm := map_rel hρ c.args
        have h1 := hcall g _ _ (l1 ++ ((c.args.map a.eval).toList ++ l2)) _ _ h hg (by simp [hp1.1, hp2.1]) (app_rel hp1.1 hp1.2 (app_rel hm.1 hm.2 hp2.2))
        have h2 := upon_call (o := ⟨dst, .call c, type, pos, after, guard⟩) (a := a) (Q := Q) h1 hK
        simp only [execOp, resolve, hcal, he, Deferred.ofValue, Sem.run_bind, Sem.run_pure, Result.andThen_ok, Go.invoke]
        have e : (l1.toArray ++ c.args.map a.eval ++ l2.toArray) = (l1 ++ ((c.args.map a.eval).toList ++ l2)).toArray := by
          apply Array.ext'
          simp
        rw [e]
        exact h2
      · exact (fail_run h).elim
    · rename_i b hcal
      have hres : ∀ (y : Value) (w' : World), (match b with
          | .len => Builtin.len_ c.argTypes type (c.args.map a.eval)
          | .min => Builtin.min_ c.argTypes type (c.args.map a.eval)
          | .append => Builtin.append_ c.argTypes type (c.args.map a.eval)
          | .copy => Builtin.copy_ c.argTypes type (c.args.map a.eval)
          | _ => stuck "").run E.P w = .ok y w' → Post cx Wr β H D out y w' → (Oper.mk dst (.call c) type pos after guard).upon E.P a K Q ((execOp a.eval (Oper.mk dst (.call c) type pos after guard)).run E.P w) := by
        intro y w' hr hp
        simp only [execOp, resolve, hcal, Sem.run_bind, Sem.run_pure, Result.andThen_ok, Go.invoke]
        cases b <;> first | (simp at hr; done) | exact upon_val hr (hK _ _ hp)
      have hargs : ∀ (n : Nat) (x : AV), (c.args.toList.map ρ)[n]? = some x → ∃ op, c.args[n]? = some op ∧ x = ρ op := by
        intro n x hx
        simp only [List.getElem?_map, Option.map_eq_some_iff, Array.getElem?_toList] at hx
        obtain ⟨op, h1, rfl⟩ := hx
        exact ⟨op, h1, rfl⟩
      have one : ∀ x, c.args.toList.map ρ = [x] → ∃ p, c.args = #[p] ∧ x = ρ p := by
        intro x hx
        rcases hl : c.args.toList with _ | ⟨p, _ | ⟨q, l⟩⟩
        · simp [hl] at hx
        · simp [hl] at hx
          exact ⟨p, by apply Array.ext'; simp [hl], hx.symm⟩
        · simp [hl] at hx
      have two : ∀ x y, c.args.toList.map ρ = [x, y] → ∃ p q, c.args = #[p, q] ∧ x = ρ p ∧ y = ρ q := by
        intro x y hx
        rcases hl : c.args.toList with _ | ⟨p, _ | ⟨q, _ | ⟨r, l⟩⟩⟩
        · simp [hl] at hx
        · simp [hl] at hx
        · simp [hl] at hx
          exact ⟨p, q, by apply Array.ext'; simp [hl], hx.1.symm, hx.2.symm⟩
        · simp [hl] at hx
      unfold builtinSem at h
      split at h
      · split at h
        · rename_i x t hx ht
          obtain ⟨p, hp, rfl⟩ := one _ hx
          obtain ⟨z, h1, h2⟩ := lenSem_run (P := E.P) (ts := c.argTypes) (ty := type) h hg hH (hρ p) (by
            rw [← Array.getElem?_toList, ht]; rfl)
          refine hres z w ?_ h2
          rw [hp]
          simpa using h1
        · exact (fail_run h).elim
      · split at h
        · rename_i x y hx
          obtain ⟨p, q, hp, rfl, rfl⟩ := two _ _ hx
          obtain ⟨z, h1, h2⟩ := minSem_run (P := E.P) (ts := c.argTypes) (ty := type) h hg hH (hρ p) (hρ q)
          refine hres z w ?_ h2
          rw [hp]
          simpa using h1
        · exact (fail_run h).elim
      · split at h
        · rename_i x y t t2 hx ht
          obtain ⟨p, q, hp, rfl, rfl⟩ := two _ _ hx
          obtain ⟨z, w', h1, h2⟩ := appendSem_run (P := E.P) (ty := type) h hg hH hf (hρ p) (hρ q)
          refine hres z w' ?_ h2
          have ht2 : c.argTypes = #[t, t2] := by apply Array.ext'; simp [ht]
          rw [hp, ht2]
          simpa using h1
        · exact (fail_run h).elim
      · split at h
        · rename_i x y t t2 hx ht
          obtain ⟨p, q, hp, rfl, rfl⟩ := two _ _ hx
          obtain ⟨z, w', h1, h2⟩ := copySem_run (P := E.P) (t2 := t2) (ty := type) h hg hH (hρ p) (hρ q)
          refine hres z w' ?_ h2
          have ht2 : c.argTypes = #[t, t2] := by apply Array.ext'; simp [ht]
          rw [hp, ht2]
          simpa using h1
        · exact (fail_run h).elim
      · exact (fail_run h).elim
    · exact (fail_run h).elim
  all_goals exact (fail_run h).elim

end
end Go.Proofs.Ytgebgjhjegadpaa

namespace Go.Proofs.Ytgebgjhjegadpaa
open Go

section
variable {P : Program} {cx : Cx} {Wr : Nat → Prop} {β β' : Bm} {H : Nat → Option Blk} {D : Nat → Prop} {w : World}

def RenOk (r : Nat → Option Nat) (β β' : Bm) : Prop := ∀ n m, r n = some m → β' m = β n

theorem renP_rel {r : Nat → Option Nat} (hr : RenOk r β β') : ∀ {ps qs : List (Nat × Nat)} {l : List Value}, renP r ps = some qs → RelPs β ps l → RelPs β' qs l
  | [], qs, l, h, hl => by simp only [renP, Option.some.injEq] at h; subst h; exact hl
  | p :: ps, qs, l, h, ⟨cv, l', e, ⟨q, hq, hcv⟩, h2⟩ => by
    unfold renP at h
    split at h
    · rename_i b rs hb hrs
      cases h
      exact ⟨cv, l', e, ⟨q, by rw [hr _ _ hb]; exact hq, hcv⟩, renP_rel hr hrs h2⟩
    · cases h

theorem SV.ren_rel {r : Nat → Option Nat} (hr : RenOk r β β') {v v' : SV} {cv : Value} (h : v.ren r = some v') (hv : RelS cx β v cv) : RelS cx β' v' cv := by
  unfold SV.ren at h
  split at h
  · split at h
    · rename_i b hb
      cases h
      obtain ⟨q, hq, e⟩ := hv
      exact ⟨q, by rw [hr _ _ hb]; exact hq, e⟩
    · cases h
  · split at h
    · rename_i b hb
      cases h
      exact hv.imp id fun ⟨q, cap, x, hq, e⟩ => ⟨q, cap, x, by rw [hr _ _ hb]; exact hq, e⟩
    · cases h
  · split at h
    · rename_i a c ha hc
      cases h
      obtain ⟨l1, l2, e, h1, h2⟩ := hv
      exact ⟨l1, l2, e, renP_rel hr ha h1, renP_rel hr hc h2⟩
    · cases h
  · cases h
    cases v <;> first | exact hv | (rename_i hn1 hn2 hn3; first | exact absurd rfl (hn1 _ _) | exact absurd rfl (hn2 _ _ _ _ _) | exact absurd rfl (hn3 _ _ _))

theorem renB_rel {r : Nat → Option Nat} (hr : RenOk r β β') : ∀ {cs cs' : List Ch} {l : List Value}, renB r cs = some cs' → RelC cx β cs l → RelC cx β' cs' l
  | [], cs', l, h, hl => by simp only [renB, Option.some.injEq] at h; subst h; exact hl
  | c :: cs, cs', l, h, hl => by
    unfold renB at h
    split at h
    · rename_i c' rs hc hrs
      cases h
      cases c with
      | ints k n xs =>
        simp only [Ch.ren, Option.some.injEq] at hc
        subst hc
        obtain ⟨h1, h2, l', e, h3⟩ := hl
        exact ⟨h1, h2, l', e, renB_rel hr hrs h3⟩
      | one v =>
        simp only [Ch.ren] at hc
        split at hc
        · rename_i v' hv'
          cases hc
          obtain ⟨cv, l', e, h1, h2⟩ := hl
          exact ⟨cv, l', e, SV.ren_rel hr hv' h1, renB_rel hr hrs h2⟩
        · cases hc
    · cases h

theorem renB_wf {r : Nat → Option Nat} : ∀ {cs cs' : List Ch}, renB r cs = some cs' → WfB cs → WfB cs'
  | [], cs', h, hw => by simp only [renB, Option.some.injEq] at h; subst h; exact hw
  | c :: cs, cs', h, hw => by
    unfold renB at h
    split at h
    · rename_i c' rs hc hrs
      cases h
      intro k m xs hm
      rcases List.mem_cons.1 hm with e | e
      · subst e
        cases c with
        | ints k' n' xs' =>
          simp only [Ch.ren, Option.some.injEq] at hc
          exact hw k m xs (by rw [hc]; exact List.mem_cons_self)
        | one v =>
          simp only [Ch.ren] at hc
          split at hc
          · cases hc
          · cases hc
      · exact renB_wf hrs (fun k m xs h => hw k m xs (List.mem_cons_of_mem _ h)) k m xs e
    · cases h

theorem AV.ren1_rel {r : Nat → Option Nat} (hr : RenOk r β β') {v v' : AV} {cv : Value} (h : v.ren r = some v') (hv : RelV1 cx β v cv) : RelV1 cx β' v' cv := by
  cases v with
  | any => simp only [AV.ren, Option.some.injEq] at h; subst h; trivial
  | s v =>
    simp only [AV.ren] at h
    split at h
    · rename_i v1 h1; cases h; exact SV.ren_rel hr h1 hv
    · cases h
  | agg cs =>
    simp only [AV.ren] at h
    split at h
    · rename_i cs1 h1
      cases h
      obtain ⟨l, e, h2⟩ := hv
      exact ⟨l, e, renB_rel hr h1 h2⟩
    · cases h
  | tup vs => exact hv.elim

theorem renL1_rel {r : Nat → Option Nat} (hr : RenOk r β β') : ∀ {vs vs' : List AV} {l : List Value}, renL r vs = some vs' → RelL1 cx β vs l → RelL1 cx β' vs' l
  | [], vs', l, h, hl => by simp only [renL, Option.some.injEq] at h; subst h; exact hl
  | v :: vs, vs', l, h, ⟨cv, l', e, h1, h2⟩ => by
    unfold renL at h
    split at h
    · rename_i v1 rs hv hrs
      cases h
      exact ⟨cv, l', e, AV.ren1_rel hr hv h1, renL1_rel hr hrs h2⟩
    · cases h

theorem AV.ren_rel {r : Nat → Option Nat} (hr : RenOk r β β') {v v' : AV} {cv : Value} (h : v.ren r = some v') (hv : RelV cx β v cv) : RelV cx β' v' cv := by
  cases v with
  | tup vs =>
    simp only [AV.ren] at h
    split at h
    · rename_i vs1 h1
      cases h
      obtain ⟨l, e, h2⟩ := hv
      exact ⟨l, e, renL1_rel hr h1 h2⟩
    · cases h
  | any => exact RelV.of1 (AV.ren1_rel (v := .any) hr h hv)
  | s v => exact RelV.of1 (AV.ren1_rel (v := .s v) hr h hv)
  | agg cs => exact RelV.of1 (AV.ren1_rel (v := .agg cs) hr h hv)

/-- Values one by one. -/
def RelL (cx : Cx) (β : Bm) (vs : List AV) (l : List Value) : Prop := vs.length = l.length ∧ ∀ (j : Nat) (v : AV) (cv : Value), vs[j]? = some v → l[j]? = some cv → RelV cx β v cv

theorem renL_rel {r : Nat → Option Nat} (hr : RenOk r β β') : ∀ {vs vs' : List AV} {l : List Value}, renL r vs = some vs' → RelL cx β vs l → RelL cx β' vs' l
  | [], vs', l, h, hl => by simp only [renL, Option.some.injEq] at h; subst h; exact ⟨hl.1, fun j v cv e => by simp at e⟩
  | v :: vs, vs', l, h, ⟨h1, h2⟩ => by
    unfold renL at h
    split at h
    · rename_i v1 rs hv hrs
      cases h
      cases l with
      | nil => simp at h1
      | cons cv l =>
        obtain ⟨a1, a2⟩ := renL_rel (l := l) hr hrs ⟨by simpa using h1, fun j v cv e1 e2 => h2 (j + 1) v cv (by simpa using e1) (by simpa using e2)⟩
        refine ⟨by simp [a1], fun j u cu e1 e2 => ?_⟩
        cases j with
        | zero =>
          simp only [List.getElem?_cons_zero, Option.some.injEq] at e1 e2
          subst e1; subst e2
          exact AV.ren_rel hr hv (h2 0 _ _ rfl rfl)
        | succ j => exact a2 j u cu (by simpa using e1) (by simpa using e2)
    · cases h

theorem renBs_get {r : Nat → Option Nat} : ∀ {bs bs' : List Blk}, renBs r bs = some bs' → bs'.length = bs.length ∧ ∀ (i : Nat) (b' : Blk), bs'[i]? = some b' → ∃ b, bs[i]? = some b ∧ renB r b = some b'
  | [], bs', h => by simp only [renBs, Option.some.injEq] at h; subst h; exact ⟨rfl, fun i b e => by simp at e⟩
  | b :: bs, bs', h => by
    unfold renBs at h
    split at h
    · rename_i b1 rs hb hrs
      cases h
      obtain ⟨h1, h2⟩ := renBs_get hrs
      refine ⟨by simp [h1], fun i b' e => ?_⟩
      cases i with
      | zero =>
        simp only [List.getElem?_cons_zero, Option.some.injEq] at e
        subst e
        exact ⟨b, rfl, hb⟩
      | succ i => simpa using h2 i b' (by simpa using e)
    · cases h

/-! The names that values lead to. -/
theorem idxN_spec : ∀ {ns : List Nat} {b i : Nat}, idxN ns b = some i → ns[i]? = some b
  | [], b, i, h => by simp [idxN] at h
  | n :: ns, b, i, h => by
    unfold idxN at h
    split at h
    · rename_i hb; cases h; rw [Nat.eq_of_beq_eq_true hb]; rfl
    · split at h
      · rename_i j hj; cases h; simpa using idxN_spec hj
      · cases h

theorem idxN_none : ∀ {ns : List Nat} {b : Nat}, idxN ns b = none → b ∉ ns
  | [], b, _ => by simp
  | n :: ns, b, h => by
    unfold idxN at h
    split at h
    · cases h
    · rename_i hb
      split at h
      · cases h
      · rename_i hj
        have := idxN_none hj
        simp only [List.mem_cons, not_or]
        refine ⟨fun e => ?_, this⟩
        subst e; simp at hb

theorem insN_spec (ns : List Nat) (n : Nat) : (∃ s, insN ns n = ns ++ s) ∧ (ns.Nodup → (insN ns n).Nodup) := by
  unfold insN
  split
  · exact ⟨⟨[], by simp⟩, id⟩
  · rename_i h
    have := idxN_none h
    refine ⟨⟨[n], rfl⟩, fun hn => ?_⟩
    rw [List.nodup_append]
    exact ⟨hn, by simp, fun a ha b hb => by simp at hb; subst hb; exact fun e => this (e ▸ ha)⟩

theorem insL_spec : ∀ (ms ns : List Nat), (∃ s, insL ns ms = ns ++ s) ∧ (ns.Nodup → (insL ns ms).Nodup)
  | [], ns => ⟨⟨[], by simp [insL]⟩, id⟩
  | m :: ms, ns => by
    obtain ⟨⟨s1, h1⟩, h2⟩ := insN_spec ns m
    obtain ⟨⟨s2, h3⟩, h4⟩ := insL_spec ms (insN ns m)
    refine ⟨⟨s1 ++ s2, ?_⟩, fun h => ?_⟩
    · rw [insL, h3, h1, List.append_assoc]
    · rw [insL]; exact h4 (h2 h)

theorem closeN_spec : ∀ {f i : Nat} {ns ns' : List Nat} {bs : List Blk} {rd : List Nat}, (closeN f i ns).run H = some ((ns', bs), rd) → i ≤ ns.length →
    (∃ s, ns' = ns ++ s) ∧ (ns.Nodup → ns'.Nodup) ∧ i + bs.length = ns'.length ∧ ∀ (j n : Nat), ns'[i + j]? = some n → ∃ b, H n = some b ∧ bs[j]? = some b := by
  intro f
  induction f with
  | zero => intro i ns ns' bs rd h; exact (fail_run h).elim
  | succ f ih =>
    intro i ns ns' bs rd h hi
    unfold closeN at h
    split at h
    · rename_i hn
      have := pure_run h
      simp only [Prod.mk.injEq] at this
      obtain ⟨e1, e2⟩ := this
      subst e2
      have hlen : ns.length ≤ i := List.getElem?_eq_none_iff.1 hn
      refine ⟨⟨[], by simp [e1]⟩, fun h => e1 ▸ h, by rw [e1]; simp; omega, fun j n e => ?_⟩
      rw [e1, List.getElem?_eq_none (by omega)] at e
      cases e
    · rename_i n hn
      obtain ⟨b, l, hb, hk, rfl⟩ := RM.run_look h
      obtain ⟨⟨ns2, bs2⟩, l1, l2, h1, h2, rfl⟩ := RM.run_bind hk
      have := pure_run h2
      simp only [Prod.mk.injEq] at this
      obtain ⟨rfl, rfl⟩ := this
      obtain ⟨⟨s, hs⟩, hnd⟩ := insL_spec (refsB b) ns
      have hlt := (List.getElem?_eq_some_iff.1 hn).1
      obtain ⟨⟨s2, h3⟩, h4, h5, h6⟩ := ih h1 (by rw [hs]; simp; omega)
      refine ⟨⟨s ++ s2, by rw [h3, hs, List.append_assoc]⟩, fun h => h4 (hnd h), by simp; omega, fun j m e => ?_⟩
      cases j with
      | zero =>
        rw [h3, hs, List.append_assoc, Nat.add_zero, List.getElem?_append_left hlt, hn] at e
        cases e
        exact ⟨b, hb, rfl⟩
      | succ j => simpa using h6 j m (by rw [← e]; congr 1; omega)

theorem canon_spec {ns0 ns : List Nat} {vs vs' : List AV} {bs' : List Blk} {rd : List Nat} (h : (canon ns0 vs).run H = some ((ns, vs', bs'), rd)) :
    (∃ s, ns = ns0 ++ s) ∧ (ns0.Nodup → ns.Nodup) ∧ renL (idxN ns) vs = some vs' ∧ ∃ bs, bs.length = ns.length ∧ renBs (idxN ns) bs = some bs' ∧ ∀ (j n : Nat), ns[j]? = some n → ∃ b, H n = some b ∧ bs[j]? = some b := by
  obtain ⟨⟨ns2, bs2⟩, l1, l2, h1, h2, rfl⟩ := RM.run_bind h
  split at h2
  · rename_i vs1 bs1 hv hb
    have := pure_run h2
    simp only [Prod.mk.injEq] at this
    obtain ⟨rfl, rfl, rfl⟩ := this
    obtain ⟨⟨s, hs⟩, hnd⟩ := insL_spec (refsL vs) ns0
    obtain ⟨⟨s2, h3⟩, h4, h5, h6⟩ := closeN_spec h1 (Nat.zero_le _)
    refine ⟨⟨s ++ s2, by rw [h3, hs, List.append_assoc]⟩, fun h => h4 (hnd h), hv, bs2, by omega, hb, fun j n e => h6 j n (by simpa using e)⟩
  · exact (fail_run h2).elim

def hinF (bs : List Blk) : Nat → Option Blk := fun n => bs[n]?

def subM (ns : List Nat) (β : Bm) : Bm := fun i => match ns[i]? with
  | some n => β n
  | none => none

theorem subM_ren (ns : List Nat) (β : Bm) : RenOk (idxN ns) β (subM ns β) := fun n m h => by
  simp only [subM, idxN_spec h]

theorem Held.ren {r : Nat → Option Nat} (hr : RenOk r β β') {p : Pl} {cs cs' : Blk} (h : renB r cs = some cs') (hh : Held cx β w p cs) : Held cx β' w p cs' := by
  obtain ⟨c, T, fr, h1, h2, h3, l, h4, h5⟩ := hh
  exact ⟨c, T, fr, h1, h2, h3, l, renB_rel hr h h4, h5⟩

/-- Some live names alone, under the names 0, 1, .. -/
theorem RelH.canon (hH : RelH cx Wr β H D w) {ns : List Nat} {bs bs' : List Blk} (hnd : ns.Nodup) (hlen : bs.length = ns.length) (hr : renBs (idxN ns) bs = some bs') (hbs : ∀ (j n : Nat), ns[j]? = some n → ∃ b, H n = some b ∧ bs[j]? = some b) :
    RelH cx Wr (subM ns β) (hinF bs') (fun i => i < ns.length) w := by
  obtain ⟨h1, h2⟩ := renBs_get hr
  have hsub : ∀ {i : Nat} {p : Pl}, subM ns β i = some p → ∃ n, ns[i]? = some n ∧ β n = some p := by
    intro i p e
    unfold subM at e
    split at e
    · rename_i n hn; exact ⟨n, hn, e⟩
    · cases e
  refine ⟨hH.size, hH.frame, hH.xok, fun i p e => ?_, fun i p cs e hc => ?_, fun i cs hc => ?_, fun i cs hc => ?_, fun i j p q e1 e2 _ _ hpq => ?_, hH.os, hH.tape, hH.output⟩
  · obtain ⟨n, hn, hp⟩ := hsub e
    exact ⟨(List.getElem?_eq_some_iff.1 hn).1, (hH.dom n p hp).2⟩
  · obtain ⟨n, hn, hp⟩ := hsub e
    obtain ⟨b, hb, hrb⟩ := h2 i cs hc
    obtain ⟨b2, hb2, hb3⟩ := hbs i n hn
    rw [hb] at hb3
    cases hb3
    exact (hH.held n p b hp hb2).ren (subM_ren ns β) hrb
  · obtain ⟨b, hb, hrb⟩ := h2 i cs hc
    have hi := (List.getElem?_eq_some_iff.1 hb).1
    obtain ⟨b2, hb2, hb3⟩ := hbs i (ns[i]'(by omega)) (by simp)
    rw [hb] at hb3
    cases hb3
    exact renB_wf hrb (hH.wf _ _ hb2)
  · have := (List.getElem?_eq_some_iff.1 hc).1
    omega
  · obtain ⟨n, hn, hp⟩ := hsub e1
    obtain ⟨m, hm, hq⟩ := hsub e2
    obtain ⟨b, hb, _⟩ := hbs i n hn
    obtain ⟨c, hc, _⟩ := hbs j m hm
    have : n = m := hH.inj n m p q hp hq (by rw [hb]; rfl) (by rw [hc]; rfl) hpq
    subst this
    obtain ⟨a1, a2⟩ := List.getElem?_eq_some_iff.1 hn
    obtain ⟨a3, a4⟩ := List.getElem?_eq_some_iff.1 hm
    exact (List.getElem_inj hnd).1 (a2.trans a4.symm)

end
end Go.Proofs.Ytgebgjhjegadpaa

namespace Go.Proofs.Ytgebgjhjegadpaa
open Go

section
variable {P : Program} {cx cx' : Cx} {Wr : Nat → Prop} {β β' : Bm} {H : Nat → Option Blk} {D : Nat → Prop} {w : World}

/-- What 'cx' lets read, 'cx'' lets read alike. -/
def Imp (cx cx' : Cx) : Prop := ∀ b, cx.X b → cx'.X b ∧ ∀ o, cx'.w0.cell? ⟨b, o, none⟩ = cx.w0.cell? ⟨b, o, none⟩

theorem RdI.to {k : IntKind} {xs : List Nat} {b o : Nat} (hi : Imp cx cx') (h : RdI cx k xs b o) : RdI cx' k xs b o := by
  intro i x e
  obtain ⟨h1, h2, h3⟩ := h i x e
  exact ⟨(hi b h1).1, by rw [(hi b h1).2]; exact h2, h3⟩

theorem RelXI.to {k : IntKind} {xs : List Nat} {cv : Value} (hi : Imp cx cx') (h : RelXI cx k xs cv) : RelXI cx' k xs cv := by
  rcases h with h | ⟨b, o, cap, h1, h2, h3⟩
  · exact .inl h
  · exact .inr ⟨b, o, cap, h1, h2, h3.to hi⟩

theorem RdX.to {c : XC} {b o : Nat} (hi : Imp cx cx') (h : RdX cx c b o) : RdX cx' c b o := by
  cases c with
  | ints k xs => exact RdI.to hi h
  | arrs k n xss => exact fun i xs e => ⟨(h i xs e).1, (h i xs e).2.to hi⟩
  | bss xss =>
    intro i xs e
    obtain ⟨h4, cv', h5, h6⟩ := h i xs e
    exact ⟨(hi b h4).1, cv', by rw [(hi b h4).2]; exact h5, h6.to hi⟩

theorem RelX.to {c : XC} {cv : Value} (hi : Imp cx cx') (h : RelX cx c cv) : RelX cx' c cv := by
  rcases h with h | ⟨b, o, cap, h1, h2, h3⟩
  · exact .inl h
  · exact .inr ⟨b, o, cap, h1, h2, RdX.to hi h3⟩

theorem RelS.to {v : SV} {cv : Value} (hi : v.noX = true ∨ Imp cx cx') (h : RelS cx β v cv) : RelS cx' β v cv := by
  cases v with
  | xsl c =>
    rcases hi with hi | hi
    · cases hi
    · exact RelX.to hi h
  | xptr c i =>
    rcases hi with hi | hi
    · cases hi
    · obtain ⟨b, o, e, h1⟩ := h
      exact ⟨b, o, e, RdX.to hi h1⟩
  | _ => exact h

theorem RelC.to : ∀ {cs : List Ch} {l : List Value}, (noXB cs = true ∨ Imp cx cx') → RelC cx β cs l → RelC cx' β cs l
  | [], _, _, e => e
  | .ints _ _ _ :: _, _, hi, ⟨h1, h2, l', e, hr⟩ => ⟨h1, h2, l', e, RelC.to (hi.imp (fun h => by simpa [noXB] using h) id) hr⟩
  | .one _ :: _, _, hi, ⟨cv, l', e, hv, hr⟩ => ⟨cv, l', e, hv.to (hi.imp (fun h => by simp [noXB] at h; exact h.1) id), RelC.to (hi.imp (fun h => by simp [noXB] at h; exact h.2) id) hr⟩

theorem RelV1.to {v : AV} {cv : Value} (hi : v.noX = true ∨ Imp cx cx') (h : RelV1 cx β v cv) : RelV1 cx' β v cv := by
  cases v with
  | any => trivial
  | s v => exact RelS.to (hi.imp (fun h => by simpa [AV.noX] using h) id) h
  | agg cs => obtain ⟨l, e, hr⟩ := h; exact ⟨l, e, hr.to (hi.imp (fun h => by simpa [AV.noX] using h) id)⟩
  | tup vs => exact h.elim

theorem RelL1.to : ∀ {vs : List AV} {l : List Value}, (noXL vs = true ∨ Imp cx cx') → RelL1 cx β vs l → RelL1 cx' β vs l
  | [], _, _, e => e
  | _ :: _, _, hi, ⟨cv, l', e, hv, hr⟩ => ⟨cv, l', e, hv.to (hi.imp (fun h => by simp [noXL] at h; exact h.1) id), RelL1.to (hi.imp (fun h => by simp [noXL] at h; exact h.2) id) hr⟩

theorem RelV.to {v : AV} {cv : Value} (hi : v.noX = true ∨ Imp cx cx') (h : RelV cx β v cv) : RelV cx' β v cv := by
  cases v with
  | tup vs => obtain ⟨l, e, hr⟩ := h; exact ⟨l, e, hr.to (hi.imp (fun h => by simpa [AV.noX] using h) id)⟩
  | any => exact RelV.of1 (RelV1.to hi h)
  | s v => exact RelV.of1 (RelV1.to hi h)
  | agg cs => exact RelV.of1 (RelV1.to hi h)

theorem RelL.to {vs : List AV} {l : List Value} (hi : Imp cx cx') (h : RelL cx β vs l) : RelL cx' β vs l :=
  ⟨h.1, fun j v cv e1 e2 => (h.2 j v cv e1 e2).to (.inr hi)⟩

theorem RelH.imp (h : RelH cx Wr β H D w) {X : Nat → Prop} (hX : ∀ b, cx.X b → X b) : Imp cx (now w X) :=
  fun b hb => ⟨hX b hb, fun _ => h.cell hb⟩

theorem RelH.back (h : RelH cx Wr β H D w) : Imp (now w cx.X) cx :=
  fun _ hb => ⟨hb, fun _ => (h.cell hb).symm⟩

theorem RM.tr_run {α : Type} {H : Nat → Option Blk} : ∀ {m : RM α} {a : α} {l rd : List Nat}, m.tr.run H = some ((a, l), rd) → l = rd ∧ m.run H = some (a, rd)
  | .pure a, b, l, rd, h => by
    simp only [RM.tr, RM.run, Option.some.injEq, Prod.mk.injEq] at h
    obtain ⟨⟨rfl, rfl⟩, rfl⟩ := h
    exact ⟨rfl, rfl⟩
  | .fail, b, l, rd, h => by simp [RM.tr, RM.run] at h
  | .look n k, a, l, rd, h => by
    obtain ⟨b, l', hb, hk, rfl⟩ := RM.run_look h
    obtain ⟨⟨a1, l1⟩, r1, r2, h1, h2, rfl⟩ := RM.run_bind hk
    obtain ⟨rfl, h3⟩ := RM.tr_run h1
    simp only [RM.run, Option.some.injEq, Prod.mk.injEq] at h2
    obtain ⟨⟨rfl, rfl⟩, rfl⟩ := h2
    refine ⟨by simp, ?_⟩
    simp only [RM.run, hb, h3, List.append_nil]

theorem RelV1.s_of {v : SV} {cv : Value} (h : RelV cx β (.s v) cv) : RelS cx β v cv := h

theorem roOne_rel {X : Nat → Prop} {t : TypeId} {v v' : AV} {r : List Bool} {rd : List Nat} {cv : Value} (hH : RelH cx Wr β H D w) (hXc : ∀ b, cx.X b → X b) (hv : RelV cx β v cv) (h : (roOne P t v).run H = some ((r, v'), rd)) (hr : ∀ b ∈ r, b = true)
    (hX : ∀ n p, n ∈ rd → β n = some p → X p.blk) : RelV (now w X) β v' cv := by
  unfold roOne at h
  split at h
  · split at h
    · rename_i v ek hek
      obtain ⟨⟨r1, c1⟩, l1, l2, h1, h2, rfl⟩ := RM.run_bind h
      have := pure_run h2
      simp only [Prod.mk.injEq] at this
      obtain ⟨rfl, rfl⟩ := this
      exact readSl_rel hH hXc (RelV1.s_of hv) h1 hr (fun n p hn => hX n p (List.mem_append_left _ hn))
    · have := pure_run h
      simp only [Prod.mk.injEq] at this
      obtain ⟨rfl, rfl⟩ := this
      exact hv.to (.inr (hH.imp hXc))
  · have := pure_run h
    simp only [Prod.mk.injEq] at this
    obtain ⟨rfl, rfl⟩ := this
    exact hv.to (.inr (hH.imp hXc))

theorem roArgs_rel {X : Nat → Prop} (hH : RelH cx Wr β H D w) (hXc : ∀ b, cx.X b → X b) : ∀ {vs vs' : List AV} {ts : List TypeId} {r : List Bool} {rd : List Nat} {l : List Value}, RelL cx β vs l → (roArgs P ts vs).run H = some ((r, vs'), rd) → (∀ b ∈ r, b = true) →
    (∀ n p, n ∈ rd → β n = some p → X p.blk) → RelL (now w X) β vs' l
  | [], vs', ts, r, rd, l, hv, h, hr, hX => by
    unfold roArgs at h
    have := pure_run h
    simp only [Prod.mk.injEq] at this
    obtain ⟨rfl, rfl⟩ := this
    exact ⟨hv.1, fun j v cv e => by simp at e⟩
  | v :: vs, vs', ts, r, rd, l, hv, h, hr, hX => by
    unfold roArgs at h
    split at h
    · rename_i heq; cases heq
    · exact (fail_run h).elim
    · rename_i t ts u us heq
      simp only [List.cons.injEq] at heq
      obtain ⟨rfl, rfl⟩ := heq
      obtain ⟨⟨r1, v1⟩, l1, l2, h1, h2, rfl⟩ := RM.run_bind h
      obtain ⟨⟨r2, v2⟩, l3, l4, h3, h4, rfl⟩ := RM.run_bind h2
      have := pure_run h4
      simp only [Prod.mk.injEq] at this
      obtain ⟨rfl, rfl⟩ := this
      cases l with
      | nil => simp [RelL] at hv
      | cons cv l =>
        have a1 := roOne_rel hH hXc (hv.2 0 v cv rfl rfl) h1 (fun b hb => hr b (List.mem_append_left _ hb)) (fun n p hn => hX n p (List.mem_append_left _ hn))
        obtain ⟨a2, a3⟩ := roArgs_rel (l := l) hH hXc ⟨by have := hv.1; simpa using this, fun j u cu e1 e2 => hv.2 (j + 1) u cu (by simpa using e1) (by simpa using e2)⟩ h3
          (fun b hb => hr b (List.mem_append_right _ hb)) (fun n p hn => hX n p (List.mem_append_right _ (List.mem_append_left _ hn)))
        refine ⟨by simp [a2], fun j u cu e1 e2 => ?_⟩
        cases j with
        | zero =>
          simp only [List.getElem?_cons_zero, Option.some.injEq] at e1 e2
          subst e1; subst e2
          exact a1
        | succ j => exact a3 j u cu (by simpa using e1) (by simpa using e2)

theorem disjN_spec {ns : List Nat} : ∀ {ms : List Nat}, disjN ns ms = true → ∀ n, n ∈ ms → n ∉ ns
  | [], _, n, h => by cases h
  | m :: ms, h, n, hn => by
    unfold disjN at h
    split at h
    · cases h
    · rename_i hm
      rcases List.mem_cons.1 hn with rfl | hn
      · exact idxN_none hm
      · exact disjN_spec h n hn

/-! What is known of a function. -/
def houtF (bs : List (Option Blk)) : Nat → Option Blk := fun n => match bs[n]? with
  | some (some b) => some b
  | _ => none

theorem houtF_some {bs : List (Option Blk)} {n : Nat} {b : Blk} : houtF bs n = some b ↔ bs[n]? = some (some b) := by
  unfold houtF
  split <;> simp_all

def Ctr (P : Program) (f : Nat) (args : List AV) (hin : List Blk) (v : AV) (hout : List (Option Blk)) : Prop :=
  ∀ (w : World) (X Wr : Nat → Prop) (β : Bm) (cargs : List Value), RelH (now w X) Wr β (hinF hin) (fun n => n < hin.length) w → RelL (now w X) β args cargs →
    Calls P f cargs.toArray w fun e w' => ∃ cv β', e = .returned cv ∧ Ext β β' ∧ RelV (now w X) β' v cv ∧ RelH (now w X) Wr β' (houtF hout) (fun n => n < hout.length) w'

def FOk (P : Program) (f : Nat) (F : FSem) : Prop :=
  (∃ fn b, P.funcs[f]? = some fn ∧ fn.body = some b ∧ fn.name ≠ "runtime.NumGoroutine") ∧
  ∀ args hin t v hout, F.run args hin = some t → t.get = some (v, hout) → Ctr P f args hin v hout

def XOk (P : Program) (f : Nat) (F : List AV → Option (Tr AV)) : Prop :=
  ∀ args t v, F args = some t → t.get = some v → ∀ (cx : Cx) (β : Bm) (w : World) (cargs : List Value), RelL cx β args cargs →
    ∃ cv, (callFunc f cargs.toArray).run P w = .ok (.value cv) w ∧ RelV cx β v cv

structure EnvOk (E : Env) : Prop where
  fs : ∀ f F, lkF E.fs f = some F → FOk E.P f F
  xs : ∀ f F, lkF E.xs f = some F → XOk E.P f F

/-! Names of new blocks. -/
theorem freshN_length : ∀ (n nx : Nat), (freshN nx n).length = n
  | 0, _ => rfl
  | n + 1, nx => by simp [freshN, freshN_length n]

theorem freshN_get : ∀ (n nx i : Nat), i < n → (freshN nx n)[i]? = some (nx + i)
  | n + 1, nx, 0, _ => rfl
  | n + 1, nx, i + 1, h => by
    simp only [freshN, List.getElem?_cons_succ]
    rw [freshN_get n (nx + 1) i (by omega)]
    congr 1; omega

theorem freshN_mem (n nx x : Nat) : x ∈ freshN nx n ↔ nx ≤ x ∧ x < nx + n := by
  constructor
  · intro h
    obtain ⟨i, hi, e⟩ := List.getElem_of_mem h
    rw [freshN_length] at hi
    have := freshN_get n nx i hi
    rw [List.getElem?_eq_getElem (by rw [freshN_length]; exact hi), e] at this
    simp at this
    omega
  · intro ⟨h1, h2⟩
    have := freshN_get n nx (x - nx) (by omega)
    rw [show nx + (x - nx) = x by omega] at this
    exact List.mem_of_getElem? this

theorem freshN_nodup : ∀ (n nx : Nat), (freshN nx n).Nodup
  | 0, _ => List.nodup_nil
  | n + 1, nx => by
    rw [freshN, List.nodup_cons]
    refine ⟨fun h => ?_, freshN_nodup n (nx + 1)⟩
    have := (freshN_mem n (nx + 1) nx).1 h
    omega

theorem wrF_other : ∀ {wr : List (Nat × Option Blk)} {H : Nat → Option Blk} {n : Nat}, (∀ p ∈ wr, p.1 ≠ n) → wrF wr H n = H n
  | [], _, _, _ => rfl
  | (m, c) :: r, H, n, h => by
    rw [wrF, wrF_other (fun p hp => h p (List.mem_cons_of_mem _ hp))]
    have := h (m, c) (List.mem_cons_self)
    simp only at this
    rw [if_neg (fun e => this e.symm)]

theorem backW_get : ∀ {ns : List Nat} {bs : List (Option Blk)} {H : Nat → Option Blk} {i n : Nat}, ns.Nodup → ns[i]? = some n → ns.length = bs.length → wrF (backW ns bs) H n = houtF bs i
  | [], _, _, i, n, _, h, _ => by simp at h
  | m :: ns, [], _, i, n, _, _, h => by simp at h
  | m :: ns, b :: bs, H, 0, n, hnd, h, _ => by
    simp only [List.getElem?_cons_zero, Option.some.injEq] at h
    subst h
    rw [List.nodup_cons] at hnd
    show wrF (backW ns bs) (fun x => if x = m then b else H x) m = _
    rw [wrF_other]
    · simp only [if_true, houtF, List.getElem?_cons_zero]
      cases b <;> rfl
    · intro p hp e
      have := (List.of_mem_zip (a := p.1) (b := p.2) hp).1
      exact hnd.1 (e ▸ this)
  | m :: ns, b :: bs, H, i + 1, n, hnd, h, hl => by
    rw [List.nodup_cons] at hnd
    show wrF (backW ns bs) (fun x => if x = m then b else H x) n = _
    rw [backW_get hnd.2 (by simpa using h) (by simpa using hl)]
    simp [houtF]

theorem backW_other {ns : List Nat} {bs : List (Option Blk)} {H : Nat → Option Blk} {n : Nat} (h : n ∉ ns) : wrF (backW ns bs) H n = H n := by
  refine wrF_other fun p hp e => ?_
  have := (List.of_mem_zip (a := p.1) (b := p.2) hp).1
  exact h (e ▸ this)

theorem liveL_spec : ∀ {ns : List Nat} {bs : List (Option Blk)} {nw : List (Nat × Blk)}, liveL ns bs = some nw → ns.length = bs.length ∧ (∀ n, n ∉ ns → lkF nw n = none) ∧ (ns.Nodup → ∀ (i n : Nat), ns[i]? = some n → ∃ b, lkF nw n = some b ∧ bs[i]? = some (some b))
  | [], [], nw, h => by simp only [liveL, Option.some.injEq] at h; subst h; exact ⟨rfl, fun _ _ => rfl, fun _ i n e => by simp at e⟩
  | [], _ :: _, nw, h => by simp [liveL] at h
  | _ :: _, [], nw, h => by simp [liveL] at h
  | _ :: _, none :: _, nw, h => by simp [liveL] at h
  | m :: ns, some b :: bs, nw, h => by
    unfold liveL at h
    split at h
    · rename_i r hr
      simp only [Option.some.injEq] at h
      subst h
      obtain ⟨h1, h2, h3⟩ := liveL_spec hr
      have hne : ∀ {n : Nat}, n ≠ m → Nat.beq m n = false := fun {n} hn => by
        cases hb : Nat.beq m n with
        | false => rfl
        | true => exact absurd (Nat.eq_of_beq_eq_true hb).symm hn
      refine ⟨by simp [h1], fun n hn => ?_, fun hnd i n e => ?_⟩
      · simp only [List.mem_cons, not_or] at hn
        simp only [lkF, hne hn.1]
        exact h2 n hn.2
      · rw [List.nodup_cons] at hnd
        cases i with
        | zero =>
          simp only [List.getElem?_cons_zero, Option.some.injEq] at e
          subst e
          exact ⟨b, by simp [lkF], rfl⟩
        | succ i =>
          have e : ns[i]? = some n := by simpa using e
          have hn : n ≠ m := fun h => hnd.1 (h ▸ List.mem_of_getElem? e)
          obtain ⟨b', h4, h5⟩ := h3 hnd.2 i n e
          exact ⟨b', by simp only [lkF, hne hn]; exact h4, by simpa using h5⟩
    · cases h

theorem renOs_get {r : Nat → Option Nat} : ∀ {bs bs' : List (Option Blk)}, renOs r bs = some bs' → bs'.length = bs.length ∧ ∀ (i : Nat) (b' : Blk), bs'[i]? = some (some b') → ∃ b, bs[i]? = some (some b) ∧ renB r b = some b'
  | [], bs', h => by simp only [renOs, Option.some.injEq] at h; subst h; exact ⟨rfl, fun i b e => by simp at e⟩
  | some b :: bs, bs', h => by
    unfold renOs at h
    split at h
    · rename_i b1 rs hb hrs
      cases h
      obtain ⟨h1, h2⟩ := renOs_get hrs
      refine ⟨by simp [h1], fun i b' e => ?_⟩
      cases i with
      | zero =>
        simp only [List.getElem?_cons_zero, Option.some.injEq] at e
        subst e
        exact ⟨b, rfl, hb⟩
      | succ i => simpa using h2 i b' (by simpa using e)
    · cases h
  | none :: bs, bs', h => by
    unfold renOs at h
    split at h
    · rename_i rs hrs
      cases h
      obtain ⟨h1, h2⟩ := renOs_get hrs
      refine ⟨by simp [h1], fun i b' e => ?_⟩
      cases i with
      | zero => simp at e
      | succ i => simpa using h2 i b' (by simpa using e)
    · cases h

end
end Go.Proofs.Ytgebgjhjegadpaa

namespace Go.Proofs.Ytgebgjhjegadpaa
open Go

section
variable {P : Program} {cx cx' : Cx} {Wr : Nat → Prop} {β β' : Bm} {H : Nat → Option Blk} {D : Nat → Prop} {w : World}

/-- What a callee may write. -/
def Wc (ns : List Nat) (β : Bm) : Nat → Prop := fun b => ∃ i p, subM ns β i = some p ∧ p.blk = b

theorem subM_get {ns : List Nat} {β : Bm} {i : Nat} {p : Pl} (e : subM ns β i = some p) : ∃ n, ns[i]? = some n ∧ β n = some p := by
  unfold subM at e
  split at e
  · rename_i n hn; exact ⟨n, hn, e⟩
  · cases e

theorem Wc_of {ns : List Nat} {β : Bm} {b : Nat} (h : Wc ns β b) : ∃ n p, n ∈ ns ∧ β n = some p ∧ p.blk = b := by
  obtain ⟨i, p, h1, h2⟩ := h
  obtain ⟨n, h3, h4⟩ := subM_get h1
  exact ⟨n, p, List.mem_of_getElem? h3, h4, h2⟩

/-- The names of the caller and those of the callee. -/
def mixM (all : List Nat) (β β1 : Bm) : Bm := fun n => match idxN all n with
  | some i => β1 i
  | none => β n

theorem idxN_of : ∀ {ns : List Nat} {i n : Nat}, ns.Nodup → ns[i]? = some n → idxN ns n = some i
  | [], i, n, _, h => by simp at h
  | m :: ns, 0, n, _, h => by
    simp only [List.getElem?_cons_zero, Option.some.injEq] at h
    subst h
    simp [idxN]
  | m :: ns, i + 1, n, hnd, h => by
    rw [List.nodup_cons] at hnd
    have hne : Nat.beq m n = false := by
      cases hb : Nat.beq m n with
      | false => rfl
      | true =>
        rw [Nat.eq_of_beq_eq_true hb] at hnd
        exact absurd (List.mem_of_getElem? (by simpa using h)) hnd.1
    simp only [idxN, hne, idxN_of hnd.2 (by simpa using h)]

theorem idxN_none_of {ns : List Nat} {n : Nat} (h : n ∉ ns) : idxN ns n = none := by
  cases e : idxN ns n with
  | none => rfl
  | some i => exact absurd (List.mem_of_getElem? (idxN_spec e)) h

theorem call_post (hH : RelH cx Wr β H D w) {ns : List Nat} (hnd : ns.Nodup) (hns : ∀ n ∈ ns, ∃ b, H n = some b) {X : Nat → Prop} {ro : Bool} (hXW : ∀ b, cx.X b → X b) (hro : ro = false → X = cx.X)
    {β1 : Bm} {w1 : World} {hout : List (Option Blk)} {v : AV} {cv : Value} {nx : Nat} {out : Out} (hE : Ext (subM ns β) β1) (hv : RelV (now w X) β1 v cv) (hr : RelH (now w X) (Wc ns β) β1 (houtF hout) (fun n => n < hout.length) w1)
    (ho : callOut ro ns nx (v, hout) = some out) (hf : Fresh D out) : Post cx Wr β H D out cv w1 := by
  unfold callOut at ho
  split at ho
  · rename_i hle
    rw [Bool.and_eq_true] at hle
    obtain ⟨hle, hnox⟩ := hle
    have hle := Nat.le_of_ble_eq_true hle
    split at ho
    rotate_left
    · cases ho
    rename_i v1 bs1 hv1 hb1
    split at ho
    · rename_i nw hnw
      simp only [Option.some.injEq] at ho
      subst ho
      simp only at hle hnox hv1 hb1 hf hnw
      have hfl := freshN_length (hout.length - ns.length) nx
      have hDns : ∀ n, n ∈ ns → D n := fun n hn => by obtain ⟨b, hb⟩ := hns n hn; exact hH.hd n b hb
      obtain ⟨hbl, hbg⟩ := renOs_get hb1
      obtain ⟨_, hnw0, hnw1⟩ := liveL_spec hnw
      have hnw1 := hnw1 (freshN_nodup _ _)
      -- the new names are not known yet
      have hnew : ∀ n, n ∈ freshN nx (hout.length - ns.length) → ¬ D n ∧ (lkF nw n).isSome = true := by
        intro n hn
        obtain ⟨i, hi, e⟩ := List.getElem_of_mem hn
        obtain ⟨b, hb, _⟩ := hnw1 i n (by rw [List.getElem?_eq_getElem hi, e])
        have hs : (lkF nw n).isSome = true := by rw [hb]; rfl
        exact ⟨hf n hs, hs⟩
      have hall : (ns ++ freshN nx (hout.length - ns.length)).Nodup := by
        rw [List.nodup_append]
        exact ⟨hnd, freshN_nodup _ _, fun a ha b hb e => by subst e; exact (hnew a hb).1 (hDns a ha)⟩
      have hallen : (ns ++ freshN nx (hout.length - ns.length)).length = hout.length := by simp [hfl]; omega
      generalize hA : ns ++ freshN nx (hout.length - ns.length) = all at *
      have hren : RenOk (nthN all) β1 (mixM all β β1) := by
        intro i m h
        simp only [mixM, idxN_of hall h]
      have himp : (v.noX && noXBs hout) = true ∨ Imp (now w X) cx := by
        cases ro with
        | false => right; have := hro rfl; subst this; exact hH.back
        | true => left; simpa using hnox
      have hext : Ext β (mixM all β β1) := by
        intro n p e
        unfold mixM
        cases hi : idxN all n with
        | none => exact e
        | some i =>
          simp only
          have h1 := idxN_spec hi
          rw [← hA] at h1
          by_cases hlt : i < ns.length
          · rw [List.getElem?_append_left hlt] at h1
            exact hE i p (by simp only [subM, h1]; exact e)
          · rw [List.getElem?_append_right (by omega)] at h1
            exact absurd (hH.dom n p e).1 (hnew n (List.mem_of_getElem? h1)).1
      -- a block of the callee that was there before
      have hold : ∀ {b : Nat}, b < w.heap.size → (w.heap.size ≤ b ∨ Wc ns β b) → ∃ n p, n ∈ ns ∧ β n = some p ∧ p.blk = b := by
        intro b hb h
        rcases h with h | h
        · omega
        · exact Wc_of h
      have hsep : ∀ {m : Nat} {q : Pl} {c : Blk}, m ∉ ns → β m = some q → H m = some c → ¬ Wc ns β q.blk := by
        intro m q c hm hq hc h
        obtain ⟨n, p, h1, h2, h3⟩ := Wc_of h
        obtain ⟨b, hb⟩ := hns n h1
        have := hH.inj n m p q h2 hq (by rw [hb]; rfl) (by rw [hc]; rfl) h3
        exact hm (this ▸ h1)
      have hheap : ∀ {b : Nat}, b < w.heap.size → ¬ Wc ns β b → w1.heap[b]? = w.heap[b]? := fun hb hn => hr.frame _ hb hn
      have hsz : w.heap.size ≤ w1.heap.size := hr.size
      -- what the lookups give
      have hget : ∀ {i n : Nat}, all[i]? = some n → happ ⟨v1, backW ns (bs1.take ns.length), nw⟩ H n = houtF bs1 i := by
        intro i n h
        rw [← hA] at h
        unfold happ
        by_cases hlt : i < ns.length
        · rw [List.getElem?_append_left hlt] at h
          have hn : n ∉ freshN nx (hout.length - ns.length) := fun hn => (hnew n hn).1 (hDns n (List.mem_of_getElem? h))
          simp only [hnw0 n hn]
          rw [backW_get hnd h (by simp; omega)]
          unfold houtF
          rw [List.getElem?_take_of_lt hlt]
        · rw [List.getElem?_append_right (by omega)] at h
          obtain ⟨b, h1, h2⟩ := hnw1 _ _ h
          rw [List.getElem?_drop, show ns.length + (i - ns.length) = i by omega] at h2
          simp only [h1]
          exact (houtF_some.2 h2).symm
      have hoth : ∀ {n : Nat}, n ∉ all → happ ⟨v1, backW ns (bs1.take ns.length), nw⟩ H n = H n := by
        intro n h
        rw [← hA, List.mem_append, not_or] at h
        unfold happ
        simp only [hnw0 n h.2, backW_other h.1]
      have hmix : ∀ {i n : Nat}, all[i]? = some n → mixM all β β1 n = β1 i := fun h => by simp only [mixM, idxN_of hall h]
      have hmixo : ∀ {n : Nat}, n ∉ all → mixM all β β1 n = β n := fun h => by simp only [mixM, idxN_none_of h]
      have hcase : ∀ n, (∃ i, all[i]? = some n) ∨ n ∉ all := fun n => by
        by_cases h : n ∈ all
        · obtain ⟨i, hi, e⟩ := List.getElem_of_mem h
          exact .inl ⟨i, by rw [List.getElem?_eq_getElem hi, e]⟩
        · exact .inr h
      have hnotns : ∀ {n : Nat}, n ∉ all → n ∉ ns := fun h => by rw [← hA, List.mem_append, not_or] at h; exact h.1
      refine ⟨mixM all β β1, hext, ?_, ?_⟩
      · exact AV.ren_rel hren hv1 (hv.to (himp.imp (fun h => by rw [Bool.and_eq_true] at h; exact h.1) id))
      · refine ⟨Nat.le_trans hH.size hsz, fun b hb hW => ?_, hH.xok, fun n p e => ?_, fun n p cs e hc => ?_, fun n cs hc => ?_, fun n cs hc => ?_, fun n m p q e1 e2 h1 h2 hpq => ?_, hr.os.trans hH.os, hr.tape.trans hH.tape, hr.output.trans hH.output⟩
        · rw [hheap (by have := hH.size; omega), hH.frame b hb hW]
          intro h
          obtain ⟨n, p, _, h2, h3⟩ := Wc_of h
          rcases (hH.dom n p h2).2.2 with h4 | h4
          · omega
          · exact hW (h3 ▸ h4)
        · rcases hcase n with ⟨i, hi⟩ | hn
          · rw [hmix hi] at e
            obtain ⟨h1, h2, h3⟩ := hr.dom i p e
            refine ⟨?_, h2, ?_⟩
            · rw [← hA] at hi
              rcases List.mem_append.1 (List.mem_of_getElem? hi) with h | h
              · exact .inl (hDns n h)
              · exact .inr (hnew n h).2
            · rcases h3 with h3 | h3
              · exact .inl (Nat.le_trans hH.size h3)
              · obtain ⟨n', p', _, h4, h5⟩ := Wc_of h3
                rw [← h5]
                exact (hH.dom n' p' h4).2.2
          · rw [hmixo hn] at e
            obtain ⟨h1, h2, h3⟩ := hH.dom n p e
            exact ⟨.inl h1, by omega, h3⟩
        · rcases hcase n with ⟨i, hi⟩ | hn
          · rw [hmix hi] at e
            rw [hget hi] at hc
            obtain ⟨b, hb, hrb⟩ := hbg i cs (houtF_some.1 hc)
            obtain ⟨c, T, fr, g1, g2, g3, l, g4, g5⟩ := hr.held i p b e (houtF_some.2 hb)
            refine ⟨c, T, fr, g1, g2, g3, l, renB_rel hren hrb (g4.to (himp.imp (fun h => ?_) id)), g5⟩
            rw [Bool.and_eq_true] at h
            have : ∀ {bs : List (Option Blk)} {i : Nat} {b : Blk}, noXBs bs = true → bs[i]? = some (some b) → noXB b = true := by
              intro bs
              induction bs with
              | nil => intro i b _ h; simp at h
              | cons b0 bs ih =>
                intro i b h0 h
                cases i with
                | zero =>
                  simp only [List.getElem?_cons_zero, Option.some.injEq] at h
                  subst h
                  simp only [noXBs, Bool.and_eq_true] at h0
                  exact h0.1
                | succ i =>
                  refine ih ?_ (by simpa using h)
                  cases b0 <;> simp [noXBs] at h0
                  · exact h0
                  · exact h0.2
            exact this h.2 hb
          · rw [hmixo hn] at e
            rw [hoth hn] at hc
            obtain ⟨c, T, fr, g1, r⟩ := (hH.held n p cs e hc).ext hext
            exact ⟨c, T, fr, by rw [hheap (hH.dom n p e).2.1 (hsep (hnotns hn) e hc)]; exact g1, r⟩
        · rcases hcase n with ⟨i, hi⟩ | hn
          · rw [hget hi] at hc
            obtain ⟨b, hb, hrb⟩ := hbg i cs (houtF_some.1 hc)
            exact renB_wf hrb (hr.wf i b (houtF_some.2 hb))
          · rw [hoth hn] at hc
            exact hH.wf n cs hc
        · rcases hcase n with ⟨i, hi⟩ | hn
          · rw [← hA] at hi
            rcases List.mem_append.1 (List.mem_of_getElem? hi) with h | h
            · exact .inl (hDns n h)
            · exact .inr (hnew n h).2
          · rw [hoth hn] at hc
            exact .inl (hH.hd n cs hc)
        · have hlive : ∀ {i n : Nat}, all[i]? = some n → (happ ⟨v1, backW ns (bs1.take ns.length), nw⟩ H n).isSome = true → (houtF hout i).isSome = true := by
            intro i n h hs
            obtain ⟨c, hc⟩ := Option.isSome_iff_exists.1 hs
            rw [hget h] at hc
            obtain ⟨b, hb, _⟩ := hbg i c (houtF_some.1 hc)
            rw [houtF_some.2 hb]; rfl
          have hcross : ∀ {i m : Nat} {p q : Pl}, β1 i = some p → m ∉ all → β m = some q → (H m).isSome = true → p.blk = q.blk → False := by
            intro i m p q g1 g2 g3 g4 g5
            obtain ⟨c, hc⟩ := Option.isSome_iff_exists.1 g4
            have hq := (hH.dom m q g3).2.1
            rcases (hr.dom i p g1).2.2 with h | h
            · have h : w.heap.size ≤ p.blk := h
              omega
            · exact hsep (hnotns g2) g3 hc (g5 ▸ h)
          rcases hcase n with ⟨i, hi⟩ | hn
          · rw [hmix hi] at e1
            rcases hcase m with ⟨j, hj⟩ | hm
            · rw [hmix hj] at e2
              have := hr.inj i j p q e1 e2 (hlive hi h1) (hlive hj h2) hpq
              subst this
              rw [hi] at hj
              exact Option.some.inj hj
            · rw [hmixo hm] at e2
              rw [hoth hm] at h2
              exact (hcross e1 hm e2 h2 hpq).elim
          · rw [hmixo hn] at e1
            rw [hoth hn] at h1
            rcases hcase m with ⟨j, hj⟩ | hm
            · rw [hmix hj] at e2
              exact (hcross e2 hn e1 h1 hpq.symm).elim
            · rw [hmixo hm] at e2
              rw [hoth hm] at h2
              exact hH.inj n m p q e1 e2 h1 h2 hpq
    · cases ho
  · cases ho

theorem callK_sound {E : Env} (hH : RelH cx Wr β H D w) {f nx : Nat} {F : FSem} (hF : FOk E.P f F) {conds : List Bool} {ron rd rd1 : List Nat} {args : List AV} {cargs : List Value} {c : List Nat × List AV × List Blk} {tr : Tr Out} {out : Out}
    (hcan : (canon [] args).run H = some (c, rd1)) (h : (callK F nx conds ron c).run H = some (tr, rd)) (hg : tr.get = some out) (hf : Fresh D out)
    (hX : ∀ X : Nat → Prop, (∀ b, cx.X b → X b) → (∀ n p, n ∈ ron → β n = some p → X p.blk) → (∀ b ∈ conds, b = true) → RelL (now w X) β args cargs) (hro : F.ro = false → ron = []) (hron : ∀ n ∈ ron, (H n).isSome = true) :
    CallOk cx Wr E.P β H D w f cargs out := by
  obtain ⟨ns, vs', bs'⟩ := c
  obtain ⟨_, hnd, hvs, bs, hbl, hbs, hbg⟩ := canon_spec hcan
  have hnd := hnd List.nodup_nil
  unfold callK at h
  split at h
  · rename_i hdis
    split at h
    · rename_i t ht
      obtain rfl := pure_run h
      obtain ⟨hconds, hg⟩ := Tr.needs_get hg
      obtain ⟨⟨v, hout⟩, hg1, hg2⟩ := Tr.map_get hg
      obtain ⟨hfn, hctr⟩ := hF
      have hc := hctr _ _ _ _ _ ht hg1
      have hns : ∀ n ∈ ns, ∃ b, H n = some b := fun n hn => by
        obtain ⟨i, hi, e⟩ := List.getElem_of_mem hn
        obtain ⟨b, hb, _⟩ := hbg i n (by rw [List.getElem?_eq_getElem hi, e])
        exact ⟨b, hb⟩
      refine .inl ⟨hfn, ?_⟩
      -- what the callee may read
      have hXno : ∀ b, cx.X b → b < w.heap.size ∧ ¬ Wc ns β b := fun b hb => by
        obtain ⟨h1, h2⟩ := hH.xok b hb
        refine ⟨by have := hH.size; omega, fun hW => ?_⟩
        obtain ⟨n, p, _, h3, h4⟩ := Wc_of hW
        rcases (hH.dom n p h3).2.2 with h5 | h5
        · omega
        · exact h2 (h4 ▸ h5)
      obtain ⟨X, hXW, hXron, hXs, hXro⟩ : ∃ X : Nat → Prop, (∀ b, cx.X b → X b) ∧ (∀ n p, n ∈ ron → β n = some p → X p.blk) ∧ (∀ b, X b → b < w.heap.size ∧ ¬ Wc ns β b) ∧ (F.ro = false → X = cx.X) := by
        cases hr : F.ro with
        | false =>
          refine ⟨cx.X, fun _ h => h, fun n p hn => ?_, hXno, fun _ => rfl⟩
          rw [hro hr] at hn; cases hn
        | true =>
          refine ⟨fun b => b < w.heap.size ∧ ¬ Wc ns β b, hXno, fun n p hn hp => ⟨(hH.dom n p hp).2.1, fun hW => ?_⟩, fun _ h => h, fun h => by cases h⟩
          obtain ⟨m, q, h1, h2, h3⟩ := Wc_of hW
          obtain ⟨b, hb⟩ := hns m h1
          have := hH.inj n m p q hp h2 (hron n hn) (by rw [hb]; rfl) h3.symm
          exact disjN_spec hdis n hn (this ▸ h1)
      have hin := hH.canon hnd hbl hbs hbg
      obtain ⟨hbl', hbg'⟩ := renBs_get hbs
      have hin' : RelH (now w X) (Wc ns β) (subM ns β) (hinF bs') (fun n => n < bs'.length) w := by
        refine ⟨Nat.le_refl _, fun _ _ _ => rfl, hXs, fun n p e => ?_, fun n p cs e hc => ?_, hin.wf, fun n cs e => (List.getElem?_eq_some_iff.1 e).1, hin.inj, rfl, rfl, rfl⟩
        · obtain ⟨h1, h2, h3⟩ := hin.dom n p e
          exact ⟨by rw [hbl', hbl]; exact h1, h2, .inr ⟨n, p, e, rfl⟩⟩
        · obtain ⟨c, T, fr, g1, g2, g3, l, g4, g5⟩ := hin.held n p cs e hc
          exact ⟨c, T, fr, g1, g2, g3, l, g4.to (.inr (hH.imp hXW)), g5⟩
      refine (hc w X (Wc ns β) (subM ns β) cargs hin' (renL_rel (subM_ren ns β) hvs (hX X hXW hXron hconds))).mono ?_
      rintro e w' ⟨cv, β1, rfl, h1, h2, h3⟩
      exact ⟨cv, rfl, call_post hH hnd hns hXW hXro h1 h2 h3 hg2 hf⟩
    · exact (fail_run h).elim
  · exact (fail_run h).elim

theorem RM.run_reads {α : Type} {H : Nat → Option Blk} : ∀ {m : RM α} {a : α} {rd : List Nat}, m.run H = some (a, rd) → ∀ n ∈ rd, (H n).isSome = true
  | .pure _, a, rd, h, n, hn => by
    simp only [RM.run, Option.some.injEq, Prod.mk.injEq] at h
    rw [← h.2] at hn; cases hn
  | .fail, a, rd, h, _, _ => by simp [RM.run] at h
  | .look m k, a, rd, h, n, hn => by
    obtain ⟨b, l, hb, hk, rfl⟩ := RM.run_look h
    rcases List.mem_cons.1 hn with rfl | hn
    · rw [hb]; rfl
    · exact RM.run_reads hk n hn

theorem callSem_sound {E : Env} (hE : EnvOk E) (hH : RelH cx Wr β H D w) {f nx : Nat} {ts : List TypeId} {args : List AV} {cargs : List Value} {tr : Tr Out} {rd : List Nat} {out : Out} (h : (callSem E f ts nx args).run H = some (tr, rd)) (hg : tr.get = some out)
    (hf : Fresh D out) (hl : RelL cx β args cargs) : CallOk cx Wr E.P β H D w f cargs out := by
  unfold callSem at h
  split at h
  · rename_i F hF
    have hFok := hE.fs f F hF
    split at h
    · rename_i hro
      obtain ⟨⟨⟨conds, args'⟩, ron⟩, l1, l2, h1, h2, rfl⟩ := RM.run_bind h
      obtain ⟨rfl, h3⟩ := RM.tr_run h1
      obtain ⟨c, l3, l4, h4, h5, rfl⟩ := RM.run_bind h2
      refine callK_sound hH hFok h4 h5 hg hf (fun X hX1 hX2 hX3 => ?_) (fun h => by rw [hro] at h; cases h) (RM.run_reads h3)
      exact roArgs_rel hH hX1 hl h3 hX3 hX2
    · rename_i hro
      obtain ⟨c, l3, l4, h4, h5, rfl⟩ := RM.run_bind h
      refine callK_sound hH hFok h4 h5 hg hf (fun X hX1 hX2 hX3 => ?_) (fun _ => rfl) (fun n hn => by cases hn)
      exact hl.to (hH.imp hX1)
  · split at h
    · rename_i F hF
      split at h
      · rename_i t ht
        obtain rfl := pure_run h
        obtain ⟨v, hv1, hv2⟩ := Tr.map_get hg
        split at hv2
        · rename_i hrefs
          simp only [Option.some.injEq] at hv2
          subst hv2
          obtain ⟨cv, h1, h2⟩ := hE.xs f F hF args t v ht hv1 cx β w cargs hl
          exact .inr ⟨cv, h1, post_val hH h2⟩
        · cases hv2
      · exact (fail_run h).elim
    · exact (fail_run h).elim

end
end Go.Proofs.Ytgebgjhjegadpaa

namespace Go.Proofs.Ytgebgjhjegadpaa
open Go

/-! The static side of a region. -/
def bindE (e : Edge) : Bool := match e.ground with
  | .textOnly _ => false
  | .gcOnly _ => false
  | _ => true

def tmpMask : List Operand → Nat
  | [] => 0
  | .tmp t :: r => Nat.lor (Nat.pow 2 t) (tmpMask r)
  | _ :: r => tmpMask r

def guardDst (ops : Array Oper) (o : Oper) : Option Nat := match o.guard with
  | some (g, _) => match ops[g]? with
    | some og => og.dst
    | none => none
  | none => none

def lookMask (ops : Array Oper) (o : Oper) : Nat := match guardDst ops o with
  | some d => Nat.lor (Nat.pow 2 d) (tmpMask o.op.operands.toList)
  | none => tmpMask o.op.operands.toList

def ancE (j : Nat) (anc : List Nat) : List Edge → Option Nat
  | [] => some 0
  | e :: es => match bindE e with
    | false => ancE j anc es
    | true => match Nat.blt e.on j, anc[e.on]?, ancE j anc es with
      | true, some m, some r => some (Nat.lor (Nat.lor (Nat.pow 2 e.on) m) r)
      | _, _, _ => none

def ancs : List Oper → List Nat → Option (List Nat)
  | [], acc => some acc
  | o :: os, acc => match ancE acc.length acc o.after.toList with
    | some m => ancs os (acc ++ [m])
    | none => none

def hasBit (m i : Nat) : Bool := Nat.testBit m i

/-- What can be said of an operation without running it. -/
structure Sta where
  dst : Option Nat
  looks : Nat
  anc : Nat

def stas (ops : Array Oper) : List Oper → List Nat → Option (List Sta)
  | [], [] => some []
  | o :: os, m :: ms => match stas ops os ms with
    | some r => some (⟨o.dst, lookMask ops o, m⟩ :: r)
    | none => none
  | _, _ => none

def stasOf (ops : Array Oper) : Option (List Sta) := match ancs ops.toList [] with
  | some ms => stas ops ops.toList ms
  | none => none

def dstNot (d : Option Nat) (m : Nat) : Bool := match d with
  | some d => !hasBit m d
  | none => true

def dstNe : Option Nat → Option Nat → Bool
  | some d, some e => !Nat.beq d e
  | _, _ => true

/-- 'x' is the i-th, 'y' comes behind it. -/
def staPair (i : Nat) (x y : Sta) : Bool := hasBit y.anc i || (dstNot x.dst y.looks && dstNe x.dst y.dst && dstNot y.dst x.looks)

def staAgainst (i : Nat) (x : Sta) : List Sta → Bool
  | [] => true
  | y :: ys => match staPair i x y with
    | true => staAgainst i x ys
    | false => false

def staAll : Nat → List Sta → Bool
  | _, [] => true
  | i, x :: xs => match staAgainst i x xs with
    | true => staAll (i + 1) xs
    | false => false

/-! What operations did. -/
structure Did where
  rd : List Nat
  out : Out

def Did.tch (r : Did) : List Nat := r.out.wr.map (·.1) ++ r.out.nw.map (·.1)

def isNil : List Nat → Bool
  | [] => true
  | _ => false

/-- The i-th, which touches 'ts', against all that come behind it. -/
def didFwd (i : Nat) (ts : List Nat) : List Sta → List Did → Bool
  | y :: ys, r :: rs => match hasBit y.anc i || (disjN ts r.rd && disjN ts r.tch) with
    | true => didFwd i ts ys rs
    | false => false
  | _, _ => true

/-- One that reads 'rd', with the ancestors 'anc', against all that come behind it. -/
def didBwd (i : Nat) (rd : List Nat) : List Sta → List Did → Bool
  | y :: ys, r :: rs => match isNil r.tch || (hasBit y.anc i || disjN r.tch rd) with
    | true => didBwd i rd ys rs
    | false => false
  | _, _ => true

def didAll : Nat → List Sta → List Did → Bool
  | i, _ :: ys, r :: rs => match (isNil r.tch || didFwd i r.tch ys rs) && didBwd i r.rd ys rs with
    | true => didAll (i + 1) ys rs
    | false => false
  | _, _, _ => true

/-! Regions. -/
def newOk : Nat → List (Nat × Blk) → Bool
  | _, [] => true
  | nx, (n, _) :: r => match Nat.beq n nx with
    | true => newOk (nx + 1) r
    | false => false

def dstOk (dk : Nat → Bool) : Option Nat → Bool
  | some d => dk d
  | none => true

structure Kit where
  E : Env
  m : SubMode
  dk : Nat → Bool

/-- An operation that runs. -/
def evOp {R : Type} (X : Kit) (o : Oper) (s : St) (K : Did → St → Option R) : Option R :=
  match dstOk X.dk o.dst with
  | true => match (opSem X.E X.m s.val s.nx o.op).run (lkF s.H) with
    | some (tr, rd) => tr.cps fun out => match newOk s.nx out.nw with
      | true => K ⟨rd, out⟩ (s.app o.dst out)
      | false => none
    | none => none
  | false => none

/-- One that does not. -/
def noOp {R : Type} (X : Kit) (o : Oper) (s : St) (K : Did → St → Option R) : Option R :=
  match dstOk X.dk o.dst with
  | true => K ⟨[], Out.val .any⟩ (s.put o.dst .any)
  | false => none

def evG {R : Type} (X : Kit) (b : Bool) (o : Oper) (s : St) (K : Did → St → Option R) : Option R :=
  match b with
  | true => evOp X o s K
  | false => noOp X o s K

def evGuard {R : Type} (X : Kit) (ops : Array Oper) (o : Oper) (s : St) (K : Did → St → Option R) : Option R :=
  match o.guard with
  | none => evOp X o s K
  | some (_, want) => match guardDst ops o with
    | some d => match lkT s.T d with
      | .s (.bool c) => cond c (evG X want o { s with T := upT d (.s (.bool true)) s.T } K) (evG X (!want) o { s with T := upT d (.s (.bool false)) s.T } K)
      | _ => none
    | none => none

def evOps {R : Type} (X : Kit) (ops : Array Oper) : List Oper → List Did → St → (List Did → St → Option R) → Option R
  | [], tab, s, K => K tab s
  | o :: os, tab, s, K => evGuard X ops o s fun r s' => evOps X ops os (r :: tab) s' K

def evRegion {R : Type} (X : Kit) (ops : Array Oper) (draw : Bool) (s : St) (K : St → Option R) : Option R :=
  match draw with
  | false => evOps X ops ops.toList [] s fun _ s' => K s'
  | true => match stasOf ops with
    | some st => match staAll 0 st with
      | true => evOps X ops ops.toList [] s fun tab s' => match didAll 0 st tab.reverse with
        | true => K s'
        | false => none
      | false => none
    | none => none

/-! Values with what is behind them, once the names 0, 1, .., k - 1 are kept. -/
def closeO (h : Nat → Option Blk) : Nat → Nat → List Nat → Option (List Nat × List (Option Blk))
  | 0, _, _ => none
  | f + 1, i, ns => match ns[i]? with
    | none => some (ns, [])
    | some n => match h n with
      | some b => match closeO h f (i + 1) (insL ns (refsB b)) with
        | some r => some (r.1, some b :: r.2)
        | none => none
      | none => match closeO h f (i + 1) ns with
        | some r => some (r.1, none :: r.2)
        | none => none

def canonO (k : Nat) (vs : List AV) (h : Nat → Option Blk) : Option (List AV × List (Option Blk)) :=
  match closeO h 200 0 (insL (freshN 0 k) (refsL vs)) with
  | some r => match renL (idxN r.1) vs, renOs (idxN r.1) r.2 with
    | some vs', some bs' => some (vs', bs')
    | _, _ => none
  | none => none

/-! Code. -/
inductive Ex where
  | normal
  | exit (id : Nat)
  | ret

/-- A loop as a whole: the variables that it starts from, those that it leaves, what it does. -/
structure LSem where
  tin : List Nat
  tout : List Nat
  run : List AV → List Blk → Option (Tr (Ex × List AV × List (Option Blk)))

def valsT (T : List (Nat × AV)) : List Nat → List AV
  | [] => []
  | t :: ts => lkT T t :: valsT T ts

def putTs : List Nat → List AV → List (Nat × AV) → List (Nat × AV)
  | t :: ts, v :: vs, T => putTs ts vs (upT t v T)
  | _, _, T => T

/-- What the variables that a loop writes are after it, but for those that it tells of. -/
def forgetT (dk : Nat → Bool) : List (Nat × AV) → List (Nat × AV)
  | [] => []
  | (t, v) :: r => match dk t with
    | true => forgetT dk r
    | false => (t, v) :: forgetT dk r

/-- The variables that code writes. -/
def wrOps : List Oper → Nat
  | [] => 0
  | o :: os => match o.dst with
    | some d => Nat.lor (Nat.pow 2 d) (wrOps os)
    | none => wrOps os

def wrCode : Code → Nat
  | .region _ ops _ => wrOps ops.toList
  | .seq a b => Nat.lor (wrCode a) (wrCode b)
  | .cond _ a b => Nat.lor (wrCode a) (wrCode b)
  | .block _ c => wrCode c
  | .loop c => wrCode c
  | _ => 0

def iterL {R : Type} (step : St → (Ex → St → Option R) → Option R) : Nat → St → (Ex → St → Option R) → Option R
  | 0, _, _ => none
  | n + 1, s, K => step s fun e s' => match e with
    | .normal => iterL step n s' K
    | e => K e s'

def noTup : List AV → Bool
  | [] => true
  | .tup _ :: _ => false
  | _ :: vs => noTup vs

def afterLoop (ns : List Nat) (msk : Nat) (L : LSem) (s : St) (r : Ex × List AV × List (Option Blk)) : Option (Ex × St) :=
  match callOut false ns s.nx (.tup r.2.1, r.2.2) with
  | some o => match o.v with
    | .tup vs => match Nat.beq vs.length L.tout.length && noTup vs, newOk s.nx o.nw with
      | true, true => some (r.1, ⟨putTs L.tout vs (forgetT (hasBit msk) s.T), o.nw ++ upHs o.wr s.H, s.nx + o.nw.length⟩)
      | _, _ => none
    | _ => none
  | none => none

def maskOk (dk : Nat → Bool) : Nat → Nat → Bool
  | 0, _ => true
  | n + 1, m => match !hasBit m n || dk n with
    | true => maskOk dk n m
    | false => false

def evSum {R : Type} (X : Kit) (N : Nat) (msk : Nat) (L : LSem) (s : St) (K : Ex → St → Option R) : Option R :=
  match maskOk X.dk N msk && Nat.blt msk (Nat.pow 2 N) with
  | true => match (canon [] (valsT s.T L.tin)).run (lkF s.H) with
    | some (c, _) => match L.run c.2.1 c.2.2 with
      | some tr => (tr.map (afterLoop c.1 msk L s)).cps fun p => K p.1 p.2
      | none => none
    | none => none
  | false => none

structure Lps where
  N : Nat
  fuel : Nat
  sums : List (Nat × LSem)

def ev {R : Type} (X : Kit) (L : Lps) : Code → St → (Ex → St → Option R) → Option R
  | .skip, s, K => K .normal s
  | .region _ ops draw, s, K => evRegion X ops draw s (K .normal)
  | .seq a b, s, K => ev X L a s fun e s' => match e with
    | .normal => ev X L b s' K
    | e => K e s'
  | .cond c a b, s, K => match s.val c with
    | .s (.bool t) => cond t (ev X L a s K) (ev X L b s K)
    | _ => none
  | .block id body, s, K => match lkF L.sums id with
    | some S => evSum X L.N (wrCode body) S s K
    | none => ev X L body s fun e s' => match e with
      | .exit id' => match Nat.beq id' id with
        | true => K .normal s'
        | false => K (.exit id') s'
      | e => K e s'
  | .loop body, s, K => iterL (ev X L body) L.fuel s K
  | .exit id, s, K => K (.exit id) s
  | .ret, s, K => K .ret s
  | _, _, _ => none

/-! Functions. -/
def zipT : Nat → List AV → List (Nat × AV)
  | _, [] => []
  | i, v :: vs => (i, v) :: zipT (i + 1) vs

def zipH : Nat → List (Option Blk) → List (Nat × Blk)
  | _, [] => []
  | i, some b :: bs => (i, b) :: zipH (i + 1) bs
  | i, none :: bs => zipH (i + 1) bs

def someL : List Blk → List (Option Blk)
  | [] => []
  | b :: bs => some b :: someL bs

def resOne (E : Env) (s : St) : ResultVar → Option (Tr AV)
  | .tmp t => some (.leaf (lkT s.T t))
  | .cell a t => match (loadSem E.P t (lkT s.T a)).run (lkF s.H) with
    | some (tr, _) => some (tr.map fun o => match o.wr, o.nw with
      | [], [] => some o.v
      | _, _ => none)
    | none => none

def resAll {R : Type} (E : Env) (s : St) : List ResultVar → List AV → (List AV → Option R) → Option R
  | [], acc, K => K acc
  | r :: rs, acc, K => match resOne E s r with
    | some tr => tr.cps fun v => resAll E s rs (acc ++ [v]) K
    | none => none

def tupV : List AV → AV
  | [v] => v
  | vs => .tup vs

def evBody (X : Kit) (L : Lps) (fn : Func) (c : Code) (args : List AV) (hin : List Blk) : Option (AV × List (Option Blk)) :=
  match Nat.ble args.length L.N with
  | true => ev X L c ⟨zipT 0 args, zipH 0 (someL hin), hin.length⟩ fun e s => match e with
    | .exit _ => none
    | _ => resAll X.E s fn.results.toList [] fun vs => match noTup vs with
      | true => match canonO hin.length [tupV vs] (lkF s.H) with
        | some ([v], bs) => some (v, bs)
        | _ => none
      | false => none
  | false => none

/-- One round of a loop: 'none' for the next round. -/
def evRound (X : Kit) (L : Lps) (S : LSem) (k : Nat) (c : Code) (args : List AV) (hs : List (Option Blk)) : Option (Ex × List AV × List (Option Blk)) :=
  ev X L c ⟨putTs S.tin args [], zipH 0 hs, hs.length⟩ fun e s => match canonO k (valsT s.T (match e with
      | .normal => S.tin
      | _ => S.tout)) (lkF s.H) with
    | some r => some (e, r.1, r.2)
    | none => none

end Go.Proofs.Ytgebgjhjegadpaa

namespace Go.Proofs.Ytgebgjhjegadpaa
open Go

/-! What an operation's meaning hangs on. -/
def valF (T : Nat → AV) : Operand → AV
  | .tmp t => T t
  | .const v => litAV v
  | _ => .any

theorem St.val_eq (s : St) : s.val = valF (lkT s.T) := by
  funext x
  cases x <;> rfl

theorem opSem_congr {E : Env} {m : SubMode} {ρ ρ' : Operand → AV} {nx : Nat} (op : Op) (h : ∀ x ∈ op.operands, ρ x = ρ' x) : opSem E m ρ nx op = opSem E m ρ' nx op := by
  have pairs : ∀ ps : Array (Nat × Operand), (∀ x ∈ (ps.toList.map (·.2)).toArray, ρ x = ρ' x) → partsAV ρ ps = partsAV ρ' ps := fun ps hp => by
    unfold partsAV
    refine List.map_congr_left fun p hm => ?_
    rw [hp p.2 (by simp only [List.mem_toArray, List.mem_map]; exact ⟨p, hm, rfl⟩)]
  cases op <;> simp only [Op.operands] at h <;> simp only [opSem]
  case build t ps => rw [pairs ps h]
  case buildSlice t n ps => rw [pairs ps h]
  case makeFunc fn first captured =>
    cases fn <;> simp only
    case func f =>
      have h1 : first.toList.map ρ = first.toList.map ρ' := List.map_congr_left fun x hx => h x (by simp [Array.mem_toList_iff.1 hx])
      have h2 : captured.toList.map ρ = captured.toList.map ρ' := List.map_congr_left fun x hx => h x (by simp [Array.mem_toList_iff.1 hx])
      rw [h1, h2]
  case call c =>
    unfold callOp
    have hargs : c.args.toList.map ρ = c.args.toList.map ρ' := List.map_congr_left fun x hx => h x (by simp [Call.operands, Array.mem_toList_iff.1 hx])
    rw [hargs]
    cases hc : c.callee with
    | value f =>
      have hf : ρ f = ρ' f := h f (by simp [Call.operands, hc])
      cases f <;> simp only [hf]
    | invoke r m => rfl
    | builtin b => rfl
  case slice t x lo hi mx => cases lo <;> cases hi <;> cases mx <;> simp_all [refAV]
  all_goals (first | rfl | (simp_all; done))

/-! Choosing among changes. -/
def selV {V : Type} (S : Nat → Bool) : Nat → List (Option V) → V → V
  | _, [], x => x
  | i, some v :: us, x => selV S (i + 1) us (cond (S i) v x)
  | i, none :: us, x => selV S (i + 1) us x

theorem selV_congr {V : Type} {S S' : Nat → Bool} : ∀ {us : List (Option V)} {i : Nat} {x : V}, (∀ (k : Nat) (u : V), us[k]? = some (some u) → S (i + k) = S' (i + k)) → selV S i us x = selV S' i us x
  | [], _, _, _ => rfl
  | some v :: us, i, x, h => by
    simp only [selV]
    rw [show S i = S' i from h 0 v rfl]
    exact selV_congr fun k u e => by have := h (k + 1) u (by simpa using e); rw [show i + 1 + k = i + (k + 1) by omega]; exact this
  | none :: us, i, x, h => by
    simp only [selV]
    exact selV_congr fun k u e => by have := h (k + 1) u (by simpa using e); rw [show i + 1 + k = i + (k + 1) by omega]; exact this

theorem selV_none {V : Type} {S : Nat → Bool} : ∀ {us : List (Option V)} {i : Nat} {x : V}, (∀ (k : Nat) (u : V), us[k]? = some (some u) → S (i + k) = false) → selV S i us x = x
  | [], _, _, _ => rfl
  | some v :: us, i, x, h => by
    have h0 : S i = false := h 0 v rfl
    simp only [selV, h0, cond_false]
    exact selV_none fun k u e => by have := h (k + 1) u (by simpa using e); rw [show i + 1 + k = i + (k + 1) by omega]; exact this
  | none :: us, i, x, h => by
    simp only [selV]
    exact selV_none fun k u e => by have := h (k + 1) u (by simpa using e); rw [show i + 1 + k = i + (k + 1) by omega]; exact this

theorem selV_last {V : Type} {S : Nat → Bool} : ∀ {us : List (Option V)} {i j : Nat} {x v : V}, us[j]? = some (some v) → S (i + j) = true → (∀ (k : Nat) (u : V), j < k → us[k]? = some (some u) → S (i + k) = false) → selV S i us x = v
  | [], _, _, _, _, h, _, _ => by simp at h
  | u :: us, i, 0, x, v, h, hS, hk => by
    simp only [List.getElem?_cons_zero, Option.some.injEq] at h
    subst h
    have hS : S i = true := hS
    simp only [selV, hS, cond_true]
    exact selV_none fun k u e => by have := hk (k + 1) u (by omega) (by simpa using e); rw [show i + 1 + k = i + (k + 1) by omega]; exact this
  | u :: us, i, j + 1, x, v, h, hS, hk => by
    have h : us[j]? = some (some v) := by simpa using h
    have ih : ∀ y, selV S (i + 1) us y = v := fun y => selV_last h (by rw [show i + 1 + j = i + (j + 1) by omega]; exact hS) fun k u hj e => by
      have := hk (k + 1) u (by omega) (by simpa using e); rw [show i + 1 + k = i + (k + 1) by omega]; exact this
    cases u <;> exact ih _

abbrev Pr := Oper × Did

def putF (d : Option Nat) (v : AV) (T : Nat → AV) : Nat → AV := fun t => if d = some t then v else T t

def selT (S : Nat → Bool) : Nat → List Pr → (Nat → AV) → Nat → AV
  | _, [], T => T
  | i, p :: ps, T => selT S (i + 1) ps (cond (S i) (putF p.1.dst p.2.out.v T) T)

def selH (S : Nat → Bool) : Nat → List Pr → (Nat → Option Blk) → Nat → Option Blk
  | _, [], H => H
  | i, p :: ps, H => selH S (i + 1) ps (cond (S i) (happ p.2.out H) H)

def selD (S : Nat → Bool) (ps : List Pr) (D : Nat → Prop) : Nat → Prop := fun n => D n ∨ ∃ k p, ps[k]? = some p ∧ S k = true ∧ (lkF p.2.out.nw n).isSome = true

def updT (t : Nat) (p : Pr) : Option AV := if p.1.dst = some t then some p.2.out.v else none

def wrU : List (Nat × Option Blk) → Nat → Option (Option Blk) → Option (Option Blk)
  | [], _, u => u
  | (m, c) :: r, n, u => wrU r n (if n = m then some c else u)

def updH (n : Nat) (p : Pr) : Option (Option Blk) := match lkF p.2.out.nw n with
  | some c => some (some c)
  | none => wrU p.2.out.wr n none

theorem wrF_wrU : ∀ (wr : List (Nat × Option Blk)) (H : Nat → Option Blk) (n : Nat) (u : Option (Option Blk)), H n = u.getD (H n) → wrF wr H n = (wrU wr n u).getD (H n)
  | [], H, n, u, h => by simp only [wrF, wrU]; exact h
  | (m, c) :: r, H, n, u, h => by
    simp only [wrF, wrU]
    by_cases hn : n = m
    · subst hn
      rw [wrF_wrU r _ n (some c) (by simp)]
      simp only [if_true]
      cases hw : wrU r n (some c) with
      | none =>
        exfalso
        have : ∀ (wr : List (Nat × Option Blk)) (u : Option (Option Blk)), u.isSome = true → (wrU wr n u).isSome = true := by
          intro wr
          induction wr with
          | nil => intro u hu; exact hu
          | cons q wr ih => intro u hu; simp only [wrU]; apply ih; split <;> simp_all
        have := this r (some c) rfl
        rw [hw] at this; cases this
      | some x => rfl
    · rw [wrF_wrU r _ n u (by simp only [hn, if_false]; exact h)]
      simp only [hn, if_false]

theorem happ_updH (p : Pr) (H : Nat → Option Blk) (n : Nat) : happ p.2.out H n = (updH n p).getD (H n) := by
  unfold happ updH
  cases lkF p.2.out.nw n with
  | some c => rfl
  | none => exact wrF_wrU _ H n none rfl

theorem wrU_touch : ∀ {wr : List (Nat × Option Blk)} {n : Nat} {u : Option (Option Blk)}, (wrU wr n u).isSome = true → u.isSome = true ∨ n ∈ wr.map (·.1)
  | [], n, u, h => .inl h
  | (m, c) :: r, n, u, h => by
    rcases wrU_touch (wr := r) h with h | h
    · by_cases hn : n = m
      · exact .inr (by simp [hn])
      · simp only [hn, if_false] at h; exact .inl h
    · exact .inr (by simp only [List.map_cons, List.mem_cons]; exact .inr h)

theorem lkF_mem {α : Type} : ∀ {l : List (Nat × α)} {n : Nat}, (lkF l n).isSome = true → n ∈ l.map (·.1)
  | [], n, h => by simp [lkF] at h
  | (m, c) :: r, n, h => by
    unfold lkF at h
    split at h
    · rename_i hb; simp [Nat.eq_of_beq_eq_true hb]
    · simp only [List.map_cons, List.mem_cons]; exact .inr (lkF_mem h)

theorem updH_touch {n : Nat} {p : Pr} (h : (updH n p).isSome = true) : n ∈ p.2.tch := by
  unfold updH at h
  unfold Did.tch
  rw [List.mem_append]
  split at h
  · rename_i c hc; exact .inr (lkF_mem (by rw [hc]; rfl))
  · rcases wrU_touch h with h | h
    · cases h
    · exact .inl h

theorem selT_get (S : Nat → Bool) (t : Nat) : ∀ (ps : List Pr) (i : Nat) (T : Nat → AV), selT S i ps T t = selV S i (ps.map (updT t)) (T t)
  | [], _, _ => rfl
  | p :: ps, i, T => by
    simp only [selT, List.map_cons]
    rw [selT_get S t ps]
    by_cases hd : p.1.dst = some t
    · simp only [updT, hd, if_true, selV]
      cases S i <;> simp [putF]
    · simp only [updT, hd, if_false, selV]
      cases S i <;> simp [putF, hd]

theorem selH_get (S : Nat → Bool) (n : Nat) : ∀ (ps : List Pr) (i : Nat) (H : Nat → Option Blk), selH S i ps H n = selV S i (ps.map (updH n)) (H n)
  | [], _, _ => rfl
  | p :: ps, i, H => by
    simp only [selH, List.map_cons]
    rw [selH_get S n ps]
    have := happ_updH p H n
    cases hu : updH n p with
    | some c =>
      rw [hu] at this
      simp only [selV]
      cases S i
      · rfl
      · simp only [cond_true, this, Option.getD_some]
    | none =>
      rw [hu] at this
      simp only [selV]
      cases S i
      · rfl
      · simp only [cond_true, this, Option.getD_none]

/-! The trace that the evaluator leaves. -/
def GuardIs (ops : Array Oper) (o : Oper) (T : Nat → AV) (b : Bool) : Prop :=
  match o.guard with
  | none => b = true
  | some (_, want) => ∃ d c, guardDst ops o = some d ∧ T d = .s (.bool c) ∧ b = (c == want)

def Step (X : Kit) (ops : Array Oper) (o : Oper) (T : Nat → AV) (H : Nat → Option Blk) (nx : Nat) (r : Did) : Prop :=
  dstOk X.dk o.dst = true ∧
  ((GuardIs ops o T true ∧ ∃ tr, (opSem X.E X.m (valF T) nx o.op).run H = some (tr, r.rd) ∧ tr.get = some r.out ∧ newOk nx r.out.nw = true) ∨ (GuardIs ops o T false ∧ r = ⟨[], Out.val .any⟩))

def TraceP (X : Kit) (ops : Array Oper) : List Oper → List Did → (Nat → AV) → (Nat → Option Blk) → Nat → Prop
  | [], [], _, _, _ => True
  | o :: os, r :: rs, T, H, nx => Step X ops o T H nx r ∧ TraceP X ops os rs (putF o.dst r.out.v T) (happ r.out H) (nx + r.out.nw.length)
  | _, _, _, _, _ => False

theorem cps_get {α β : Type} {K : α → Option β} {b : β} : ∀ {t : Tr α}, t.cps K = some b → ∃ a, t.get = some a ∧ K a = some b
  | .leaf a, h => ⟨a, rfl, h⟩
  | .need c t, h => by
    cases c with
    | false => simp [Tr.cps] at h
    | true => simp only [Tr.cps, cond_true] at h; obtain ⟨a, h1, h2⟩ := cps_get h; exact ⟨a, by simpa [Tr.get] using h1, h2⟩
  | .br c x y, h => by
    cases c with
    | false => simp only [Tr.cps, cond_false] at h; obtain ⟨a, h1, h2⟩ := cps_get h; exact ⟨a, by simpa [Tr.get] using h1, h2⟩
    | true => simp only [Tr.cps, cond_true] at h; obtain ⟨a, h1, h2⟩ := cps_get h; exact ⟨a, by simpa [Tr.get] using h1, h2⟩
  | .fail, h => by simp [Tr.cps] at h

theorem beq_false {m n : Nat} (h : m ≠ n) : Nat.beq m n = false := by
  cases hb : Nat.beq m n with
  | false => rfl
  | true => exact absurd (Nat.eq_of_beq_eq_true hb) h

theorem lkT_up : ∀ (d : Nat) (v : AV) (T : List (Nat × AV)) (t : Nat), lkT (upT d v T) t = if d = t then v else lkT T t
  | d, v, [], t => by
    simp only [upT, lkT]
    by_cases h : d = t
    · subst h; simp
    · simp [beq_false h, h]
  | d, v, (k, u) :: r, t => by
    unfold upT
    by_cases hk : k = d
    · subst hk
      simp only [Nat.beq_refl, lkT]
      by_cases h : k = t
      · subst h; simp
      · simp [beq_false h, h]
    · simp only [beq_false hk, lkT]
      by_cases h : k = t
      · subst h
        have : ¬ d = k := fun e => hk e.symm
        simp [this]
      · simp only [beq_false h]; exact lkT_up d v r t

theorem lkF_upH : ∀ (n : Nat) (c : Option Blk) (H : List (Nat × Blk)) (m : Nat), lkF (upH n c H) m = if m = n then c else lkF H m
  | n, none, [], m => by simp [upH, lkF]
  | n, some c, [], m => by
    by_cases h : m = n
    · subst h; simp [upH, lkF]
    · simp [upH, lkF, beq_false (fun e => h e.symm : ¬ n = m), h]
  | n, oc, (k, u) :: r, m => by
    by_cases hk : k = n
    · subst hk
      cases oc with
      | some c =>
        have e : upH k (some c) ((k, u) :: r) = (k, c) :: r := by simp [upH]
        rw [e]
        by_cases h : m = k
        · subst h; simp [lkF]
        · simp [lkF, beq_false (fun e => h e.symm : ¬ k = m), h]
      | none =>
        have e : upH k none ((k, u) :: r) = upH k none r := by simp [upH]
        rw [e, lkF_upH k none r m]
        by_cases h : m = k
        · subst h; simp
        · simp [lkF, beq_false (fun e => h e.symm : ¬ k = m), h]
    · have e : upH n oc ((k, u) :: r) = (k, u) :: upH n oc r := by
        cases oc <;> simp [upH, beq_false hk]
      rw [e]
      by_cases h : m = k
      · subst h; simp [lkF, hk]
      · simp only [lkF, beq_false (fun e => h e.symm : ¬ k = m)]; exact lkF_upH n oc r m

theorem lkF_upHs : ∀ (wr : List (Nat × Option Blk)) (H : List (Nat × Blk)), lkF (upHs wr H) = wrF wr (lkF H)
  | [], _ => rfl
  | (n, c) :: r, H => by
    rw [upHs, lkF_upHs r, wrF]
    congr 1
    funext m
    exact lkF_upH n c H m

theorem lkF_append {α : Type} : ∀ (a b : List (Nat × α)) (n : Nat), lkF (a ++ b) n = match lkF a n with
    | some c => some c
    | none => lkF b n
  | [], b, n => rfl
  | (m, c) :: a, b, n => by
    simp only [List.cons_append, lkF]
    by_cases h : m = n
    · subst h; simp
    · simp only [beq_false h]; exact lkF_append a b n

theorem app_T (s : St) (d : Option Nat) (o : Out) : lkT (s.app d o).T = putF d o.v (lkT s.T) := by
  funext t
  unfold St.app putF
  cases d with
  | none => simp
  | some d => simp only [lkT_up, Option.some.injEq]

theorem app_H (s : St) (d : Option Nat) (o : Out) : lkF (s.app d o).H = happ o (lkF s.H) := by
  funext n
  simp only [St.app, lkF_append, happ, lkF_upHs]
  cases lkF o.nw n <;> rfl

theorem put_T (s : St) (d : Option Nat) (v : AV) : lkT (s.put d v).T = putF d v (lkT s.T) := by
  funext t
  unfold St.put putF
  cases d with
  | none => simp
  | some d => simp only [lkT_up, Option.some.injEq]

theorem put_H (s : St) (d : Option Nat) (v : AV) : (s.put d v).H = s.H ∧ (s.put d v).nx = s.nx := by
  unfold St.put
  cases d <;> exact ⟨rfl, rfl⟩

theorem happ_val (v : AV) (H : Nat → Option Blk) : happ (Out.val v) H = H := by
  funext n; rfl

/-- The evaluator's states end where the trace ends. -/
structure EndsAt (ps : List Pr) (T : Nat → AV) (H : Nat → Option Blk) (nx : Nat) (s : St) : Prop where
  T : lkT s.T = selT (fun _ => true) 0 ps T
  H : lkF s.H = selH (fun _ => true) 0 ps H
  nx : s.nx = nx + (ps.map (·.2.out.nw.length)).sum

theorem selT_shift (i j : Nat) (ps : List Pr) (T : Nat → AV) : selT (fun _ => true) i ps T = selT (fun _ => true) j ps T := by
  induction ps generalizing i j T with
  | nil => rfl
  | cons p ps ih => simp only [selT, cond_true]; exact ih _ _ _

theorem selH_shift (i j : Nat) (ps : List Pr) (H : Nat → Option Blk) : selH (fun _ => true) i ps H = selH (fun _ => true) j ps H := by
  induction ps generalizing i j H with
  | nil => rfl
  | cons p ps ih => simp only [selH, cond_true]; exact ih _ _ _

section
variable {R : Type} {X : Kit} {ops : Array Oper}

theorem evOp_step {o : Oper} {s : St} {K : Did → St → Option R} {res : R} (h : evOp X o s K = some res) (hgd : GuardIs ops o (lkT s.T) true) :
    ∃ r s', K r s' = some res ∧ Step X ops o (lkT s.T) (lkF s.H) s.nx r ∧ lkT s'.T = putF o.dst r.out.v (lkT s.T) ∧ lkF s'.H = happ r.out (lkF s.H) ∧ s'.nx = s.nx + r.out.nw.length := by
  unfold evOp at h
  split at h
  · rename_i hd
    split at h
    · rename_i tr rd hrun
      obtain ⟨out, h1, h2⟩ := cps_get h
      split at h2
      · rename_i hn
        exact ⟨⟨rd, out⟩, _, h2, ⟨hd, .inl ⟨hgd, tr, by rw [← St.val_eq]; exact hrun, h1, hn⟩⟩, app_T _ _ _, app_H _ _ _, rfl⟩
      · cases h2
    · cases h
  · cases h

theorem noOp_step {o : Oper} {s : St} {K : Did → St → Option R} {res : R} (h : noOp X o s K = some res) (hgd : GuardIs ops o (lkT s.T) false) :
    ∃ r s', K r s' = some res ∧ Step X ops o (lkT s.T) (lkF s.H) s.nx r ∧ lkT s'.T = putF o.dst r.out.v (lkT s.T) ∧ lkF s'.H = happ r.out (lkF s.H) ∧ s'.nx = s.nx + r.out.nw.length := by
  unfold noOp at h
  split at h
  · rename_i hd
    refine ⟨_, _, h, ⟨hd, .inr ⟨hgd, rfl⟩⟩, put_T _ _ _, ?_, ?_⟩
    · rw [(put_H _ _ _).1]; exact (happ_val _ _).symm
    · rw [(put_H _ _ _).2]; rfl
  · cases h

theorem evG_step {b : Bool} {o : Oper} {s : St} {K : Did → St → Option R} {res : R} (h : evG X b o s K = some res) (hgd : GuardIs ops o (lkT s.T) b) :
    ∃ r s', K r s' = some res ∧ Step X ops o (lkT s.T) (lkF s.H) s.nx r ∧ lkT s'.T = putF o.dst r.out.v (lkT s.T) ∧ lkF s'.H = happ r.out (lkF s.H) ∧ s'.nx = s.nx + r.out.nw.length := by
  cases b with
  | true => exact evOp_step h hgd
  | false => exact noOp_step h hgd

theorem lkT_same {T : List (Nat × AV)} {d : Nat} {v : AV} (h : lkT T d = v) : lkT (upT d v T) = lkT T := by
  funext t
  rw [lkT_up]
  split
  · rename_i e; subst e; exact h.symm
  · rfl

theorem evGuard_step {o : Oper} {s : St} {K : Did → St → Option R} {res : R} (h : evGuard X ops o s K = some res) :
    ∃ r s', K r s' = some res ∧ Step X ops o (lkT s.T) (lkF s.H) s.nx r ∧ lkT s'.T = putF o.dst r.out.v (lkT s.T) ∧ lkF s'.H = happ r.out (lkF s.H) ∧ s'.nx = s.nx + r.out.nw.length := by
  unfold evGuard at h
  split at h
  · rename_i hg
    exact evOp_step h (by unfold GuardIs; rw [hg])
  · rename_i g want hg
    split at h
    · rename_i d hd
      split at h
      · rename_i c hc
        have key : ∀ (b : Bool), c = b → GuardIs ops o (lkT (upT d (.s (.bool b)) s.T)) (b == want) := fun b e => by
          subst e
          rw [lkT_same hc]
          unfold GuardIs
          rw [hg]
          exact ⟨d, c, hd, hc, rfl⟩
        cases c with
        | true =>
          have h : evG X want o { s with T := upT d (.s (.bool true)) s.T } K = some res := h
          have hk := key true rfl
          rw [show ((true : Bool) == want) = want by cases want <;> rfl] at hk
          obtain ⟨r, s', h1, h2, h3, h4, h5⟩ := evG_step h hk
          simp only [lkT_same hc] at h2 h3
          exact ⟨r, s', h1, h2, h3, h4, h5⟩
        | false =>
          have h : evG X (!want) o { s with T := upT d (.s (.bool false)) s.T } K = some res := h
          have hk := key false rfl
          rw [show ((false : Bool) == want) = !want by cases want <;> rfl] at hk
          obtain ⟨r, s', h1, h2, h3, h4, h5⟩ := evG_step h hk
          simp only [lkT_same hc] at h2 h3
          exact ⟨r, s', h1, h2, h3, h4, h5⟩
      · cases h
    · cases h

theorem evOps_trace : ∀ {os : List Oper} {tab : List Did} {s : St} {K : List Did → St → Option R} {res : R}, evOps X ops os tab s K = some res →
    ∃ rs s', K (rs.reverse ++ tab) s' = some res ∧ rs.length = os.length ∧ TraceP X ops os rs (lkT s.T) (lkF s.H) s.nx ∧ EndsAt (os.zip rs) (lkT s.T) (lkF s.H) s.nx s'
  | [], tab, s, K, res, h => ⟨[], s, by simpa [evOps] using h, rfl, trivial, ⟨rfl, rfl, by simp⟩⟩
  | o :: os, tab, s, K, res, h => by
    unfold evOps at h
    obtain ⟨r, s1, h1, h2, h3, h4, h5⟩ := evGuard_step h
    obtain ⟨rs, s', h6, h7, h8, h9⟩ := evOps_trace h1
    rw [h3, h4, h5] at h8
    refine ⟨r :: rs, s', by simpa using h6, by simp [h7], ⟨h2, h8⟩, ⟨?_, ?_, ?_⟩⟩
    · rw [h9.T, h3]; simp only [List.zip_cons_cons, selT, cond_true]; exact selT_shift _ _ _ _
    · rw [h9.H, h4]; simp only [List.zip_cons_cons, selH, cond_true]; exact selH_shift _ _ _ _
    · rw [h9.nx, h5]; simp; omega

end

/-! One operation of the trace. -/
theorem newOk_spec : ∀ {nw : List (Nat × Blk)} {nx n : Nat}, newOk nx nw = true → (lkF nw n).isSome = true → nx ≤ n ∧ n < nx + nw.length
  | [], nx, n, _, h => by simp [lkF] at h
  | (m, b) :: r, nx, n, h, hn => by
    unfold newOk at h
    split at h
    · rename_i hb
      have hm := Nat.eq_of_beq_eq_true hb
      by_cases he : m = n
      · subst he; subst hm; simp
      · simp only [lkF, beq_false he] at hn
        have := newOk_spec h hn
        simp only [List.length_cons]
        omega
    · cases h

theorem Step.names {X : Kit} {ops : Array Oper} {o : Oper} {T : Nat → AV} {H : Nat → Option Blk} {nx : Nat} {r : Did} (h : Step X ops o T H nx r) {n : Nat} (hn : (lkF r.out.nw n).isSome = true) : nx ≤ n ∧ n < nx + r.out.nw.length := by
  rcases h.2 with ⟨_, tr, _, _, h⟩ | ⟨_, rfl⟩
  · exact newOk_spec h hn
  · simp [Out.val, lkF] at hn

theorem TraceP_get {X : Kit} {ops : Array Oper} : ∀ {os : List Oper} {rs : List Did} {T : Nat → AV} {H : Nat → Option Blk} {nx i j : Nat} {o : Oper} {r : Did}, TraceP X ops os rs T H nx → (os.zip rs)[j]? = some (o, r) →
    ∃ nxj, Step X ops o (selT (fun k => decide (k < i + j)) i (os.zip rs) T) (selH (fun k => decide (k < i + j)) i (os.zip rs) H) nxj r ∧ nx ≤ nxj ∧
      ∀ (k : Nat) (p : Pr) (n : Nat), (os.zip rs)[k]? = some p → (lkF p.2.out.nw n).isSome = true → nx ≤ n ∧ (k < j → n < nxj) ∧ (j < k → nxj + r.out.nw.length ≤ n)
  | [], _, _, _, _, _, j, o, r, _, h => by simp at h
  | o1 :: os, [], _, _, _, _, j, o, r, ht, h => by simp at h
  | o1 :: os, r1 :: rs, T, H, nx, i, 0, o, r, ⟨hs, ht⟩, h => by
    simp only [List.zip_cons_cons, List.getElem?_cons_zero, Option.some.injEq, Prod.mk.injEq] at h
    obtain ⟨rfl, rfl⟩ := h
    refine ⟨nx, ?_, Nat.le_refl _, fun k p n hk hn => ?_⟩
    · have a1 : selT (fun k => decide (k < i + 0)) i ((o1 :: os).zip (r1 :: rs)) T = T := by
        funext t
        rw [selT_get]
        exact selV_none fun k u _ => by simp
      have a2 : selH (fun k => decide (k < i + 0)) i ((o1 :: os).zip (r1 :: rs)) H = H := by
        funext n
        rw [selH_get]
        exact selV_none fun k u _ => by simp
      rw [a1, a2]
      exact hs
    · cases k with
      | zero =>
        simp only [List.zip_cons_cons, List.getElem?_cons_zero, Option.some.injEq] at hk
        subst hk
        exact ⟨(hs.names hn).1, fun h => by omega, fun h => by omega⟩
      | succ k =>
        have hk : (os.zip rs)[k]? = some p := by simpa using hk
        obtain ⟨nxk, hk1, hk2, _⟩ := TraceP_get (i := 0) (o := p.1) (r := p.2) ht hk
        have := (hk1.names hn).1
        exact ⟨by omega, fun h => by omega, fun _ => by omega⟩
  | o1 :: os, r1 :: rs, T, H, nx, i, j + 1, o, r, ⟨hs, ht⟩, h => by
    have h : (os.zip rs)[j]? = some (o, r) := by simpa using h
    obtain ⟨nxj, h1, h2, h3⟩ := TraceP_get (i := i + 1) ht h
    refine ⟨nxj, ?_, by omega, fun k p n hk hn => ?_⟩
    · rw [show i + 1 + j = i + (j + 1) by omega] at h1
      have hi : decide (i < i + (j + 1)) = true := by simp
      simp only [List.zip_cons_cons, selT, selH, hi, cond_true]
      exact h1
    · cases k with
      | zero =>
        simp only [List.zip_cons_cons, List.getElem?_cons_zero, Option.some.injEq] at hk
        subst hk
        have := hs.names hn
        exact ⟨this.1, fun _ => by omega, fun h => by omega⟩
      | succ k =>
        have := h3 k p n (by simpa using hk) hn
        exact ⟨by omega, fun h => this.2.1 (by omega), fun h => this.2.2 (by omega)⟩

end Go.Proofs.Ytgebgjhjegadpaa

namespace Go.Proofs.Ytgebgjhjegadpaa
open Go

/-- What stays while a body runs. -/
structure C0 where
  cx : Cx
  Wr : Nat → Prop
  β0 : Bm
  N : Nat
  ok : Nat → Bool
  old : Nat → Value

def RelA (C : C0) (T : Nat → AV) (H : Nat → Option Blk) (D : Nat → Prop) (a : Act) (w : World) : Prop :=
  ∃ β, Ext C.β0 β ∧ RelH C.cx C.Wr β H D w ∧ (∀ t, RelV C.cx β (T t) (a.tmps.getD t undef)) ∧ a.defers = [] ∧ a.tmps.size = C.N ∧ ∀ t, C.ok t = false → a.tmps.getD t undef = C.old t

structure KitOk (X : Kit) (C : C0) : Prop where
  env : EnvOk X.E
  dst : ∀ d, X.dk d = true → C.ok d = true ∧ d < C.N

section
variable {X : Kit} {C : C0} {ops : Array Oper} {T : Nat → AV} {H : Nat → Option Blk} {D : Nat → Prop} {a : Act} {w : World}

theorem RelA.drew (h : RelA C T H D a w) : RelA C T H D a w.drew := by
  obtain ⟨β, h1, h2, h3⟩ := h
  exact ⟨β, h1, h2.drew, h3⟩

theorem RelA.weaken (h : RelA C T H D a w) {D' : Nat → Prop} (hD : ∀ n, D n → D' n) : RelA C T H D' a w := by
  obtain ⟨β, h1, h2, h3⟩ := h
  exact ⟨β, h1, h2.mono hD (fun _ _ h => h), h3⟩

theorem valF_rel {cx : Cx} {β : Bm} (h : ∀ t, RelV cx β (T t) (a.tmps.getD t undef)) (x : Operand) : RelV cx β (valF T x) (a.eval x) := by
  cases x with
  | tmp t => exact h t
  | const v => exact litAV_rel v β
  | global g => trivial
  | func f => trivial

theorem put_getD (a : Act) (d : Option Nat) (cv : Value) (t : Nat) : (a.put d cv).tmps.getD t undef = if d = some t ∧ t < a.tmps.size then cv else a.tmps.getD t undef := by
  unfold Act.put
  cases d with
  | none => simp
  | some d =>
    simp only [Option.some.injEq]
    by_cases h : d = t
    · subst h
      by_cases hlt : d < a.tmps.size
      · simp [hlt]
      · simp [hlt]
    · rw [if_neg (fun e => h e.1)]
      simp [Array.getElem?_setIfInBounds_ne h]

theorem RelA.put (hX : KitOk X C) {β : Bm} {d : Option Nat} (hd : dstOk X.dk d = true) {v : AV} {cv : Value} {H' : Nat → Option Blk} {D' : Nat → Prop} {w' : World} (h0 : Ext C.β0 β) (h1 : RelH C.cx C.Wr β H' D' w') (h2 : ∀ t, RelV C.cx β (T t) (a.tmps.getD t undef))
    (h3 : a.defers = []) (h4 : a.tmps.size = C.N) (h5 : ∀ t, C.ok t = false → a.tmps.getD t undef = C.old t) (hv : RelV C.cx β v cv) : RelA C (putF d v T) H' D' (a.put d cv) w' := by
  have hdd : ∀ t, d = some t → C.ok t = true ∧ t < C.N := fun t e => by subst e; exact hX.dst t hd
  refine ⟨β, h0, h1, fun t => ?_, ?_, ?_, fun t ht => ?_⟩
  · rw [put_getD]
    unfold putF
    by_cases e : d = some t
    · rw [if_pos e, if_pos ⟨e, by rw [h4]; exact (hdd t e).2⟩]; exact hv
    · rw [if_neg e, if_neg (fun h => e h.1)]; exact h2 t
  · unfold Act.put; cases d <;> exact h3
  · unfold Act.put; cases d
    · exact h4
    · simpa using h4
  · rw [put_getD, if_neg, h5 t ht]
    intro e
    rw [(hdd t e.1).1] at ht
    cases ht

/-- A tmp that an operation looks at. -/
def Looks (ops : Array Oper) (o : Oper) (t : Nat) : Prop := .tmp t ∈ o.op.operands ∨ guardDst ops o = some t

theorem guard_wanted {o : Oper} {b : Bool} (hg : GuardIs ops o T b) {cx : Cx} {β : Bm} (h : ∀ t, RelV cx β (T t) (a.tmps.getD t undef)) : Region.wanted o (yielded ops a.tmps) = b := by
  unfold GuardIs at hg
  unfold Region.wanted
  cases hgu : o.guard with
  | none => rw [hgu] at hg; exact hg.symm
  | some gw =>
    obtain ⟨g, want⟩ := gw
    rw [hgu] at hg
    obtain ⟨d, c, h1, h2, rfl⟩ := hg
    have hv := h d
    rw [h2] at hv
    have hv : a.tmps.getD d undef = .bool c := hv
    have hy : yielded ops a.tmps g = some c := by
      unfold guardDst at h1
      rw [hgu] at h1
      cases hog : ops[g]? with
      | none => simp [hog] at h1
      | some og =>
        simp only [hog] at h1
        have hsome : a.tmps[d]? = some (.bool c) := by
          cases he : a.tmps[d]? with
          | none => simp [Array.getD_eq_getD_getElem?, he, undef] at hv
          | some x => simp [Array.getD_eq_getD_getElem?, he] at hv; rw [hv]
        simp [yielded, hog, h1, hsome]
    simp only [hy]
    cases c <;> cases want <;> rfl

theorem step_at (hX : KitOk X C) {prs : List Pr} {S : Nat → Bool} {j : Nat} {o : Oper} {r : Did} {D0 : Nat → Prop} {nxj : Nat} {K : Act → World → Prop} {Q : Exit → Act → World → Prop}
    (ho : ops[j]? = some o) (hp : prs[j]? = some (o, r)) (hSj : S j = false)
    (hst : Step X ops o (selT (fun k => decide (k < j)) 0 prs T) (selH (fun k => decide (k < j)) 0 prs H) nxj r)
    (hT : ∀ t, Looks ops o t → selT S 0 prs T t = selT (fun k => decide (k < j)) 0 prs T t)
    (hH : ∀ n, n ∈ r.rd → selH S 0 prs H n = selH (fun k => decide (k < j)) 0 prs H n)
    (hfr : ∀ n, (lkF r.out.nw n).isSome = true → ¬ selD S prs D0 n)
    (haT : ∀ t, o.dst = some t → ∀ (k : Nat) (p : Pr), j < k → prs[k]? = some p → S k = true → p.1.dst ≠ some t)
    (haH : ∀ n, n ∈ r.tch → ∀ (k : Nat) (p : Pr), j < k → prs[k]? = some p → S k = true → n ∉ p.2.tch)
    (hI : RelA C (selT S 0 prs T) (selH S 0 prs H) (selD S prs D0) a w)
    (hK : ∀ (S' : Nat → Bool) a' w', (∀ k, S' k = (S k || k == j)) → RelA C (selT S' 0 prs T) (selH S' 0 prs H) (selD S' prs D0) a' w' → K a' w') :
    wpOp X.E.P ops Q j K a w := by
  obtain ⟨β, h0, h1, h2, h3, h4, h5⟩ := hI
  have hguard : ∀ b, GuardIs ops o (selT (fun k => decide (k < j)) 0 prs T) b → GuardIs ops o (selT S 0 prs T) b := by
    intro b hb
    unfold GuardIs at hb ⊢
    cases hg : o.guard with
    | none => rw [hg] at hb; exact hb
    | some gw =>
      obtain ⟨g, want⟩ := gw
      rw [hg] at hb
      obtain ⟨d, c, e1, e2, e3⟩ := hb
      exact ⟨d, c, e1, by rw [hT d (.inr e1)]; exact e2, e3⟩
  -- the state behind it
  have hafter : ∀ (S' : Nat → Bool), (∀ k, S' k = (S k || k == j)) → selT S' 0 prs T = putF o.dst r.out.v (selT S 0 prs T) ∧ selH S' 0 prs H = happ r.out (selH S 0 prs H) ∧ ∀ n, dapp r.out (selD S prs D0) n → selD S' prs D0 n := by
    intro S' hS'
    have hne : ∀ k, k ≠ j → S' k = S k := fun k hk => by rw [hS' k]; simp [hk]
    have hj : S' j = true := by rw [hS' j]; simp
    refine ⟨?_, ?_, fun n hn => ?_⟩
    · funext t
      rw [selT_get]
      unfold putF
      by_cases e : o.dst = some t
      · rw [if_pos e]
        refine selV_last (j := j) (by rw [List.getElem?_map, hp]; simp [updT, e]) (by rw [Nat.zero_add]; exact hj) fun k u hk hu => ?_
        rw [List.getElem?_map, Option.map_eq_some_iff] at hu
        obtain ⟨p, hpk, hu⟩ := hu
        rw [Nat.zero_add, hne k (by omega)]
        cases hSk : S k with
        | false => rfl
        | true =>
          have := haT t e k p hk hpk hSk
          simp [updT, this] at hu
      · rw [if_neg e, selT_get]
        refine selV_congr fun k u hu => ?_
        rw [List.getElem?_map, Option.map_eq_some_iff] at hu
        obtain ⟨p, hpk, hu⟩ := hu
        rw [Nat.zero_add]
        refine hne k fun ek => ?_
        subst ek
        rw [hp] at hpk
        cases hpk
        simp [updT, e] at hu
    · funext n
      rw [selH_get, happ_updH (o, r)]
      cases hu : updH n (o, r) with
      | some c =>
        refine selV_last (j := j) (by rw [List.getElem?_map, hp]; simp [hu]) (by rw [Nat.zero_add]; exact hj) fun k u hk huk => ?_
        rw [List.getElem?_map, Option.map_eq_some_iff] at huk
        obtain ⟨p, hpk, huk⟩ := huk
        rw [Nat.zero_add, hne k (by omega)]
        cases hSk : S k with
        | false => rfl
        | true => exact absurd (updH_touch (by rw [huk]; rfl)) (haH n (updH_touch (p := (o, r)) (by rw [hu]; rfl)) k p hk hpk hSk)
      | none =>
        rw [Option.getD_none, selH_get]
        refine selV_congr fun k u huk => ?_
        rw [List.getElem?_map, Option.map_eq_some_iff] at huk
        obtain ⟨p, hpk, huk⟩ := huk
        rw [Nat.zero_add]
        refine hne k fun ek => ?_
        subst ek
        rw [hp] at hpk
        cases hpk
        rw [hu] at huk
        cases huk
    · rcases hn with (h | ⟨k, p, e1, e2, e3⟩) | h
      · exact .inl h
      · exact .inr ⟨k, p, e1, by rw [hS' k, e2]; rfl, e3⟩
      · exact .inr ⟨j, (o, r), hp, hj, h⟩
  have hS' : ∀ k, (fun k => S k || k == j) k = (S k || k == j) := fun _ => rfl
  obtain ⟨e1, e2, e3⟩ := hafter _ hS'
  have hnext : ∀ cv w', Post C.cx C.Wr β (selH S 0 prs H) (selD S prs D0) r.out cv w' → K (a.put o.dst cv) w' := by
    intro cv w' ⟨β', g1, g2, g3⟩
    refine hK _ _ _ hS' ?_
    rw [e1, e2]
    exact RelA.put hX hst.1 (h0.trans g1) (g3.mono e3 (fun _ _ h => h)) (fun t => (h2 t).ext g1) h3 h4 h5 g2
  unfold wpOp
  simp only [ho]
  rcases hst.2 with ⟨hg, tr, hrun, hget, hnew⟩ | ⟨hg, hr⟩
  · rw [guard_wanted (hguard _ hg) h2]
    simp only [if_true]
    refine .inl ?_
    have hcongr : opSem X.E X.m (valF (selT (fun k => decide (k < j)) 0 prs T)) nxj o.op = opSem X.E X.m (valF (selT S 0 prs T)) nxj o.op := opSem_congr _ fun x hx => by
      cases x with
      | tmp t => exact (hT t (.inl hx)).symm
      | _ => rfl
    rw [hcongr] at hrun
    have hrun := RM.run_agree hrun hH
    refine op_sound (valF_rel h2) hrun hget h1 hfr ?_ hnext
    intro f ts args cargs tr' rd' g1 g2 g3 g4
    exact callSem_sound hX.env h1 g1 g2 hfr ⟨g3, g4⟩
  · rw [guard_wanted (hguard _ hg) h2]
    simp only [Bool.false_eq_true, if_false]
    subst hr
    exact hnext undef w (post_val h1 (v := .any) trivial)

end
end Go.Proofs.Ytgebgjhjegadpaa

/-
  The abstract machine: its operations, one by one, against the model's: append, copy, make.
-/
import Derived.Test.YtgebgjhjegadpaaAbK
import Derived.Laws.AppendOwn
namespace Go.Proofs.Ytgebgjhjegadpaa
open Go

section
variable {P : Program} {cx : Cx} {Wr : Nat → Prop} {β : Bm} {H : Nat → Option Blk} {D : Nat → Prop} {w : World}

theorem notInt_spec {t : TypeId} (h : notInt P t = true) : (∃ e, P.underlying t = some (.slice e)) ∨ P.underlying t = some .string := by
  unfold notInt at h
  split at h
  · rename_i e hu; exact .inl ⟨_, hu⟩
  · rename_i hu; exact .inr hu
  · cases h

/-- append, where it fits. -/
theorem run_append_fit {t t2 ty e : TypeId} {i : TypeInfo} (ht : P.underlying t = some (.slice e)) (h2 : notInt P t2 = true) (hi : P.info? e = some i) (hsz : i.size = 1)
    {base : Option Addr} {sLen sCap : Nat} {x : Value} {news : List Value} {w' : World} (hlen : (Builtin.lenOf x).run P w = .ok news.length w) (hnew : (Builtin.firstCells 1 news.length x).run P w = .ok news.toArray w)
    (hroom : sLen + news.length ≤ sCap) (hst : ∀ a, base = some a → (storeCells (a.add sLen) news).run P w = .ok () w') (hnone : base = none → w' = w) :
    (Builtin.append_ #[t, t2] ty #[.slice base sLen sCap, x]).run P w = .ok (.slice base (sLen + news.length) sCap) w' := by
  cases base with
  | none =>
    obtain rfl := hnone rfl
    rcases notInt_spec h2 with ⟨d, hd⟩ | hd <;> simp [Builtin.append_, run_underlying ht, run_underlying hd, sizeOf, typeInfo, hi, hsz, hlen, hroom, hnew]
  | some a =>
    have := hst a rfl
    rcases notInt_spec h2 with ⟨d, hd⟩ | hd <;> simp [Builtin.append_, run_underlying ht, run_underlying hd, sizeOf, typeInfo, hi, hsz, hlen, hroom, hnew, this]

/-- append, where it must grow. -/
theorem run_append_more {t t2 ty e : TypeId} {i : TypeInfo} {z : Value} (ht : P.underlying t = some (.slice e)) (h2 : notInt P t2 = true) (hi : P.info? e = some i) (hsz : i.size = 1) (hz0 : i.zero = some z) (hz1 : z.cells.size = 1) (hby : i.bytes ≤ 8)
    {base : Option Addr} {sLen sCap : Nat} {x : Value} {olds news : List Value} (hlen : (Builtin.lenOf x).run P w = .ok news.length w) (hnew : (Builtin.firstCells 1 news.length x).run P w.drew = .ok news.toArray w.drew)
    (hold : (Builtin.firstCells 1 sLen (.slice base sLen sCap)).run P w.drew = .ok olds.toArray w.drew)
    (hroom : sCap < sLen + news.length) (hb : sLen + news.length ≤ 4398046511104) :
    ∃ cap rest, sLen + news.length ≤ cap ∧ rest.length = cap - (sLen + news.length) ∧ (Builtin.append_ #[t, t2] ty #[.slice base sLen sCap, x]).run P w = .ok (.slice (some ⟨w.heap.size, 0, none⟩) (sLen + news.length) cap) (w.drew.alloc (.cells (olds ++ (news ++ rest)).toArray e)) := by
  have h1 : ¬ (sLen + news.length ≤ sCap) := by omega
  have hsmall : ¬ (9223372036854775807 < ((sLen : Int) + (news.length : Int))) := by omega
  have hfit : ¬ (281474976710656 < Builtin.nextslicecap (sLen + news.length) sCap * i.bytes) := by
    have := growslice_fits (need := sLen + news.length) (old := sCap) (bytes := i.bytes) hroom (by
      have := Nat.mul_le_mul hb hby; omega)
    omega
  refine ⟨grownCap w (sLen + news.length) sCap e, (Builtin.zeroCells z.cells (grownCap w (sLen + news.length) sCap e - (sLen + news.length))).toList, grownCap_ge _ _ _ _, by simp [size_zeroCells, hz1], ?_⟩
  rcases notInt_spec h2 with ⟨d, hd⟩ | hd <;>
  · simp [Builtin.append_, run_underlying ht, run_underlying hd, sizeOf, typeInfo, zeroValue, hi, hsz, hz0, hlen, h1, hsmall, hfit, Question.forced, hnew, hold, newRow, grownCap]
    congr 2
    apply Array.ext'
    simp

theorem lenOf_slice {base : Option Addr} {n c : Nat} : (Builtin.lenOf (.slice base n c)).run P w = .ok n w := rfl

/-- What a source of append holds. -/
structure Src (P : Program) (w : World) (k : IntKind) (ys : List Nat) (cv : Value) : Prop where
  len : ∀ w', (Builtin.lenOf cv).run P w' = .ok ys.length w'
  now : ∀ n, n ≤ ys.length → (Builtin.firstCells 1 n cv).run P w = .ok ((ys.take n).map (fun x : Nat => Value.int k x)).toArray w
  drew : ∀ n, n ≤ ys.length → (Builtin.firstCells 1 n cv).run P w.drew = .ok ((ys.take n).map (fun x : Nat => Value.int k x)).toArray w.drew
  lim : ∀ x ∈ ys, x < lim k

theorem srcLen_eq {k : IntKind} {v : SV} {r : List Bool} {ys : List Nat} {rd : List Nat} {cv : Value} (hH : RelH cx Wr β H D w) (hv : RelS cx β v cv) (h : (catSrc k v).run H = some ((r, .ints k ys), rd)) (hr : ∀ b ∈ r, b = true) : srcLen ys v = ys.length := by
  cases v with
  | sl m b off len sz =>
    have h : (readSl (.ints k) (.sl m b off len sz)).run H = some ((r, .ints k ys), rd) := h
    have hx := relX_ints (readSl_rel (X := fun _ => True) hH (fun _ _ => trivial) hv h hr (fun _ _ _ _ => trivial))
    exact (row_len hx hv).symm
  | _ => rfl

theorem catSrc_src {k : IntKind} {v : SV} {r : List Bool} {ys : List Nat} {rd : List Nat} {cv : Value} (hH : RelH cx Wr β H D w) (hv : RelS cx β v cv) (h : (catSrc k v).run H = some ((r, .ints k ys), rd)) (hr : ∀ b ∈ r, b = true) : Src P w k ys cv := by
  obtain ⟨h1, h2, h3⟩ := catSrc_run (P := P) hH hv h hr rfl
  obtain ⟨_, h4, _⟩ := catSrc_run (P := P) hH.drew hv h hr rfl
  refine ⟨fun w' => ?_, h2, h4, h3⟩
  cases cv <;> simp [Builtin.lenOf] at h1 ⊢ <;> exact h1

theorem int_cells (k : IntKind) (x : Int) : (Value.int k x).cells.size = 1 := rfl

theorem map_oneCell {k : IntKind} (ys : List Nat) : ∀ v ∈ ys.map (fun x : Nat => Value.int k x), v.oneCell' = true := by
  intro v hv
  obtain ⟨x, _, rfl⟩ := List.mem_map.1 hv
  rfl

theorem relC_one {k : IntKind} {n : Nat} {xs : List Nat} (hn : xs.length = n) (h : ∀ x ∈ xs, x < lim k) : RelC cx β [.ints k n xs] (xs.map fun x : Nat => Value.int k x) := by
  subst hn; exact relC_ints h

/-- A new row that append made. -/
theorem grown_post {k : IntKind} {e : TypeId} {nx cap : Nat} {zs : List Nat} {rest : List Value} {wr : List (Nat × Option Blk)} (hH : RelH cx Wr β H D w) (hf : ¬ D nx) (hzs : ∀ x ∈ zs, x < lim k) (hcap : zs.length ≤ cap) (hrest : rest.length = cap - zs.length)
    (hwr : wr = [] ∨ ∃ b, wr = [(b, none)]) :
    Post cx Wr β H D ⟨.s (.sl .whole nx 0 zs.length 1), wr, [(nx, [.ints k zs.length zs])]⟩ (.slice (some ⟨w.heap.size, 0, none⟩) zs.length cap) (w.drew.alloc (.cells ((zs.map fun x : Nat => Value.int k x) ++ rest).toArray e)) := by
  have h1 := (hH.drew.alloc hf (c := ((zs.map fun x : Nat => Value.int k x) ++ rest).toArray) (T := e) (relC_one (cx := cx) (β := β) (k := k) rfl hzs) (by simp) (fun i v hv => by
    have hlt := (List.getElem?_eq_some_iff.1 hv).1
    simp only [List.getElem?_toArray]
    rw [List.getElem?_append_left hlt]; exact hv))
  have hs : ((zs.map fun x : Nat => Value.int k x) ++ rest).toArray.size = cap := by simp [hrest]; omega
  rw [hs] at h1
  refine ⟨β.put nx ⟨w.heap.size, 0, cap⟩, Bm.ext_put (hH.none_of_fresh hf), .inr ⟨⟨w.heap.size, 0, cap⟩, cap, 0, by simp [Bm.put], rfl, fun _ => rfl, hcap, by simp⟩, ?_⟩
  rw [dapp_cat]
  refine h1.mono (fun _ h => h) (fun n c hc => ?_)
  rcases hwr with rfl | ⟨b, rfl⟩
  · rwa [happ_new] at hc
  · rw [happ_cat] at hc
    by_cases hn : n = nx
    · simpa [hn] using hc
    · simp only [hn, if_false] at hc ⊢
      split at hc
      · cases hc
      · exact hc

theorem catNil_run {k : IntKind} {t t2 ty : TypeId} {nx : Nat} {ys : List Nat} {cvx : Value} {tr : Tr Out} {rd : List Nat} {out : Out} (ht : elemInt P t = some k) (h2 : notInt P t2 = true) (hs : Src P w k ys cvx)
    (h : (catO nx k ys ys.length .nil).run H = some (tr, rd)) (hg : tr.get = some out) (hH : RelH cx Wr β H D w) (hf : Fresh D out) :
    ∃ y w', (Builtin.append_ #[t, t2] ty #[.slice none 0 0, cvx]).run P w = .ok y w' ∧ Post cx Wr β H D out y w' := by
  obtain ⟨e, i, hu, hk, hi, hsz, hby, hz⟩ := elemInt_spec ht
  obtain rfl := pure_run h
  obtain ⟨h0, hg⟩ := Tr.need_get hg
  obtain rfl := leaf_get hg
  have h0 := of_decide_eq_true h0
  have hfn : ¬ D nx := hf nx (by simp [lkF_self])
  have hlen : (ys.map fun x : Nat => Value.int k x).length = ys.length := by simp
  by_cases hy : ys = []
  · subst hy
    refine ⟨.slice none 0 0, w, ?_, β, Ext.refl β, .inl ⟨rfl, rfl⟩, ?_⟩
    · have := run_append_fit (P := P) (w := w) (w' := w) (ty := ty) hu h2 hi hsz (base := none) (sLen := 0) (sCap := 0) (x := cvx) (news := []) (by simpa using hs.len w) (by simpa using hs.now 0 (by simp)) (by simp) (fun a h => by cases h) (fun _ => rfl)
      simpa using this
    · rw [happ_new, dapp_new]
      exact hH.unreal hfn (fun k' m xs hm => by simp at hm; obtain ⟨_, rfl, rfl⟩ := hm; rfl)
  · have hpos : 0 < ys.length := List.length_pos_iff.2 hy
    obtain ⟨cap, rest, h3, h4, h5⟩ := run_append_more (P := P) (w := w) (ty := ty) hu h2 hi hsz hz (int_cells _ _) hby (base := none) (sLen := 0) (sCap := 0) (x := cvx) (olds := []) (news := ys.map fun x : Nat => Value.int k x)
      (by simpa using hs.len w) (by simpa using hs.drew ys.length (Nat.le_refl _)) (by simp [Builtin.firstCells]) (by simpa using hpos) (by simpa using h0)
    simp only [hlen, Nat.zero_add, List.nil_append] at h3 h4 h5
    exact ⟨_, _, h5, grown_post hH hfn hs.lim h3 h4 (.inl rfl)⟩

theorem catR_run {nx b len : Nat} {k : IntKind} {ys : List Nat} {o : Option (List Bool × List Nat)} {tr : Tr Out} {rd : List Nat} {out : Out} (h : (catR nx b len k ys ys.length o).run H = some (tr, rd)) (hg : tr.get = some out) :
    ∃ r xs, o = some (r, xs) ∧ (∀ b ∈ r, b = true) ∧ len + ys.length ≤ 4398046511104 ∧ out = ⟨.s (.sl .whole nx 0 (len + ys.length) 1), [(b, none)], [(nx, [.ints k (len + ys.length) (xs ++ ys)])]⟩ := by
  unfold catR at h
  split at h
  · rename_i r xs
    obtain rfl := pure_run h
    obtain ⟨hr, hg⟩ := Tr.needs_get hg
    obtain rfl := leaf_get hg
    obtain ⟨hr1, hr2⟩ := all_app hr
    exact ⟨_, _, rfl, hr1, by simpa using hr2, rfl⟩
  · exact (fail_run h).elim

theorem catSl_run {k : IntKind} {t t2 ty : TypeId} {nx b off len : Nat} {m : LK} {ys : List Nat} {cva cvx : Value} {tr : Tr Out} {rd : List Nat} {out : Out} (ht : elemInt P t = some k) (h2 : notInt P t2 = true) (hs : Src P w k ys cvx)
    (h : (catO nx k ys ys.length (.sl m b off len 1)).run H = some (tr, rd)) (hg : tr.get = some out) (hH : RelH cx Wr β H D w) (hf : Fresh D out) (hv : RelS cx β (.sl m b off len 1) cva) :
    ∃ y w', (Builtin.append_ #[t, t2] ty #[cva, cvx]).run P w = .ok y w' ∧ Post cx Wr β H D out y w' := by
  obtain ⟨e, i, hu, hk, hi, hsz, hby, hz⟩ := elemInt_spec ht
  obtain ⟨cs, l, hcs, hk2, rfl⟩ := RM.run_look h
  obtain ⟨r, xs, hrow, hr, hb, rfl⟩ := catR_run hk2 hg
  have hfn : ¬ D nx := hf nx (by simp [lkF_self])
  obtain ⟨hx, hxl⟩ := rowOf_rel (X := fun _ => True) hH (fun _ _ => trivial) hv hcs hrow hr
  obtain ⟨hxd, _⟩ := rowOf_rel (X := fun _ => True) hH.drew (fun _ _ => trivial) hv hcs hrow hr
  have hlen : (ys.map fun x : Nat => Value.int k x).length = ys.length := by simp
  have hlim : ∀ x ∈ xs ++ ys, x < lim k := by
    intro x hxm
    rcases List.mem_append.1 hxm with h | h
    · rcases hx with ⟨rfl, _⟩ | ⟨_, _, _, _, _, hrd⟩
      · cases h
      · exact hrd.lim x h
    · exact hs.lim x h
  have hzl : (xs ++ ys).length = len + ys.length := by simp [hxl]
  rcases hv with ⟨rfl, rfl⟩ | ⟨q, cap, x, hq, rfl, hxa, hlc, hsz2⟩
  · -- nil
    obtain rfl : xs = [] := List.length_eq_zero_iff.1 hxl
    by_cases hy : ys = []
    · subst hy
      refine ⟨.slice none 0 0, w, ?_, β, Ext.refl β, .inl ⟨rfl, rfl⟩, ?_⟩
      · have := run_append_fit (P := P) (w := w) (w' := w) (ty := ty) hu h2 hi hsz (base := none) (sLen := 0) (sCap := 0) (x := cvx) (news := []) (by simpa using hs.len w) (by simpa using hs.now 0 (by simp)) (by simp) (fun a h => by cases h) (fun _ => rfl)
        simpa using this
      · rw [happ_cat, dapp_cat]
        refine (hH.unreal hfn (cs := [.ints k 0 []]) (fun k' m xs hm => by simp at hm; obtain ⟨_, rfl, rfl⟩ := hm; rfl)).mono (fun _ h => h) (fun n c hc => ?_)
        by_cases hn : n = nx
        · simpa [hn] using hc
        · simp only [hn, if_false] at hc ⊢
          split at hc
          · cases hc
          · exact hc
    · have hpos : 0 < ys.length := List.length_pos_iff.2 hy
      obtain ⟨cap, rest, h3, h4, h5⟩ := run_append_more (P := P) (w := w) (ty := ty) hu h2 hi hsz hz (int_cells _ _) hby (base := none) (sLen := 0) (sCap := 0) (x := cvx) (olds := []) (news := ys.map fun x : Nat => Value.int k x)
        (by simpa using hs.len w) (by simpa using hs.drew ys.length (Nat.le_refl _)) (by simp [Builtin.firstCells]) (by simpa using hpos) (by simpa using hb)
      simp only [hlen, Nat.zero_add, List.nil_append] at h3 h4 h5
      have := grown_post (wr := [(b, none)]) (e := e) hH hfn hs.lim h3 h4 (.inr ⟨b, rfl⟩)
      exact ⟨_, _, h5, by simpa using this⟩
  · by_cases hroom : len + ys.length ≤ cap
    · -- it fits
      by_cases hc0 : cap = 0
      · have hy : ys = [] := List.length_eq_zero_iff.1 (by omega)
        have hx0 : xs = [] := List.length_eq_zero_iff.1 (by omega)
        subst hy hx0
        obtain rfl : len = 0 := by omega
        subst hc0
        refine ⟨.slice (some ⟨q.blk, x, none⟩) 0 0, w, ?_, ?_⟩
        · have := run_append_fit (P := P) (w := w) (w' := w) (ty := ty) hu h2 hi hsz (base := some ⟨q.blk, x, none⟩) (sLen := 0) (sCap := 0) (x := cvx) (news := []) (by simpa using hs.len w) (by simpa using hs.now 0 (by simp)) (by simp) (fun a h => rfl) (fun h => by cases h)
          simpa using this
        · obtain ⟨c, T, fr, hc, _⟩ := hH.held b q cs hq hcs
          refine ⟨β.put nx ⟨q.blk, 0, 0⟩, Bm.ext_put (hH.none_of_fresh hfn), .inr ⟨⟨q.blk, 0, 0⟩, 0, x, by simp [Bm.put], rfl, fun h => absurd rfl h, Nat.le_refl _, by simp⟩, ?_⟩
          rw [happ_cat, dapp_cat]
          refine hH.pass (cs := [.ints k 0 []]) (p := ⟨q.blk, 0, 0⟩) hfn hq (by rw [hcs]; rfl) rfl (fun _ _ => rfl) rfl rfl rfl rfl ⟨c, T, fr, hc, by simp, fun o h3 h4 => by simp at h4, [], ?_, by simp, fun i v h => by simp at h⟩
          exact ⟨rfl, by simp, [], rfl, rfl⟩
      · obtain rfl := hxa hc0
        rcases hx with ⟨_, h⟩ | ⟨b', o', cap', he, hcap', hrd⟩
        · cases h
        · simp only [Value.slice.injEq, Option.some.injEq, Addr.mk.injEq] at he
          obtain ⟨⟨rfl, rfl, _⟩, _, rfl⟩ := he
          obtain ⟨c, T, fr, hc, hs1, hfr, _⟩ := hH.held b q cs hq hcs
          have hst : (storeCells ⟨q.blk, q.base + off + len, none⟩ (ys.map fun x : Nat => Value.int k x)).run P w = .ok () (w.setCells q.blk (q.base + off + len) (ys.map fun x : Nat => Value.int k x)) := by
            have := run_storeCells_cells (P := P) q.blk (q.base + off + len) (ys.map fun x : Nat => Value.int k x) 0 w (fun j hj => by
              rw [hlen] at hj
              rw [cell_of_heap hc]; simp; omega) (fun j hj => by rw [hlen] at hj; exact frozen_of_heap hc (hfr _ (by omega) (by omega))) (map_oneCell ys)
            simpa using this
          refine ⟨.slice (some ⟨q.blk, q.base + off, none⟩) (len + ys.length) cap, w.setCells q.blk (q.base + off + len) (ys.map fun x : Nat => Value.int k x), ?_, ?_⟩
          · have := run_append_fit (P := P) (w := w) (ty := ty) hu h2 hi hsz (base := some ⟨q.blk, q.base + off, none⟩) (sLen := len) (sCap := cap) (x := cvx) (news := ys.map fun x : Nat => Value.int k x) (by simpa using hs.len w) (by simpa using hs.now ys.length (Nat.le_refl _)) (by simpa using hroom)
              (fun a h => by cases h; rw [addr_add]; exact hst) (fun h => by cases h)
            simpa using this
          · obtain ⟨⟨s1, s2, s3, s4⟩, s5⟩ := setCells_other q.blk (ys.map fun x : Nat => Value.int k x) (q.base + off + len) w
            obtain ⟨c', e1, e2, e3⟩ := setCells_heap q.blk (ys.map fun x : Nat => Value.int k x) (q.base + off + len) w c T fr hc
            refine ⟨β.put nx ⟨q.blk, q.base + off, cap⟩, Bm.ext_put (hH.none_of_fresh hfn), .inr ⟨⟨q.blk, q.base + off, cap⟩, cap, q.base + off, by simp [Bm.put], rfl, fun _ => rfl, hroom, by simp⟩, ?_⟩
            rw [happ_cat, dapp_cat]
            refine hH.pass (p := ⟨q.blk, q.base + off, cap⟩) (cs := [.ints k (len + ys.length) (xs ++ ys)]) hfn hq (by rw [hcs]; rfl) s1 s5 s2 s3 s4 rfl ⟨c', T, fr, e1, by rw [e2]; show q.base + off + cap ≤ _; omega, fun o h3 h4 => hfr o (by have h3 : q.base + off ≤ o := h3; omega) (by have h4 : o < q.base + off + cap := h4; omega), (xs ++ ys).map (fun x : Nat => Value.int k x), relC_one (by simp [hxl]) hlim, by simp; omega, fun j v hv => ?_⟩
            rw [List.map_append] at hv
            show c'[q.base + off + j]? = some v
            rw [e3, hlen]
            have hxm : (xs.map fun x : Nat => Value.int k x).length = len := by simp [hxl]
            by_cases hj : j < len
            · rw [List.getElem?_append_left (by omega)] at hv
              rw [if_neg (by omega)]
              rw [List.getElem?_map, Option.map_eq_some_iff] at hv
              obtain ⟨y, hy, rfl⟩ := hv
              have := (hrd j y hy).2.1
              rwa [cell_of_heap hc] at this
            · rw [List.getElem?_append_right (by omega), hxm] at hv
              have hjl := (List.getElem?_eq_some_iff.1 hv).1
              rw [hlen] at hjl
              rw [if_pos (by omega), show q.base + off + j - (q.base + off + len) = j - len by omega]
              exact hv
    · -- it grows
      have hold : (Builtin.firstCells 1 len (.slice (some ⟨q.blk, x, none⟩) len cap)).run P w.drew = .ok (xs.map fun x : Nat => Value.int k x).toArray w.drew := by
        simp only [Builtin.firstCells, Nat.mul_one]
        rcases hxd with ⟨_, h⟩ | ⟨b', o', cap', he, hcap', hrd⟩
        · cases h
        · simp only [Value.slice.injEq, Option.some.injEq, Addr.mk.injEq] at he
          obtain ⟨⟨rfl, rfl, _⟩, _, rfl⟩ := he
          refine run_cells (fun j v e => ?_) (by simp [hxl])
          rw [List.getElem?_map, Option.map_eq_some_iff] at e
          obtain ⟨y, hy, rfl⟩ := e
          exact (hrd j y hy).2.1
      obtain ⟨cap2, rest, h3, h4, h5⟩ := run_append_more (P := P) (w := w) (ty := ty) hu h2 hi hsz hz (int_cells _ _) hby (base := some ⟨q.blk, x, none⟩) (sLen := len) (sCap := cap) (x := cvx) (olds := xs.map fun x : Nat => Value.int k x) (news := ys.map fun x : Nat => Value.int k x)
        (by simpa using hs.len w) (by simpa using hs.drew ys.length (Nat.le_refl _)) hold (by simp; omega) (by simpa using hb)
      simp only [hlen] at h3 h4 h5
      rw [← List.append_assoc, ← List.map_append] at h5
      have := grown_post (wr := [(b, none)]) (e := e) (zs := xs ++ ys) (cap := cap2) (rest := rest) hH hfn hlim (by rw [hzl]; exact h3) (by rw [hzl]; exact h4) (.inr ⟨b, rfl⟩)
      rw [hzl] at this
      exact ⟨_, _, h5, this⟩

end
end Go.Proofs.Ytgebgjhjegadpaa

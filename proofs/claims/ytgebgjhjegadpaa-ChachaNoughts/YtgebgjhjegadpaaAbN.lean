/-
  The abstract machine: its operations, one by one, against the model's: strings, equality, slices with their elements.
-/
import Derived.Test.YtgebgjhjegadpaaAbM
namespace Go.Proofs.Ytgebgjhjegadpaa
open Go

section
variable {P : Program} {cx : Cx} {Wr : Nat → Prop} {β : Bm} {H : Nat → Option Blk} {D : Nat → Prop} {w : World}

theorem strT_run {xs : List Nat} {tr : Tr Out} {rd : List Nat} {out : Out} (h : (strT xs).run H = some (tr, rd)) (hg : tr.get = some out) : out = Out.val (.s (.str xs)) := by
  obtain rfl := pure_run h
  exact oneT_get hg

theorem foldl_push (ns : List Int) : ∀ (acc : ByteArray), (ns.foldl (fun r n => r.push (UInt8.ofNat n.toNat)) acc).data.toList = acc.data.toList ++ ns.map fun n => UInt8.ofNat n.toNat := by
  induction ns with
  | nil => intro acc; simp
  | cons n ns ih =>
    intro acc
    simp only [List.foldl_cons, ih, List.map_cons]
    simp [ByteArray.push]

theorem bytesToString_run {xs : List Nat} {cv : Value} {X : Nat → Prop} (h : RelXI (now w X) .u8 xs cv) : ∃ ba, (Conv.bytesToString cv).run P w = .ok (.string ba) w ∧ xs = ba.data.toList.map (·.toNat) := by
  rcases h with ⟨rfl, rfl⟩ | ⟨b, o, cap, rfl, _, hrd⟩
  · exact ⟨ByteArray.empty, rfl, rfl⟩
  · have h1 : (loadCells ⟨b, o, none⟩ xs.length).run P w = .ok ((xs.map fun x : Nat => (x : Int)).map (Value.int .u8)).toArray w := by
      refine run_cells (fun i v e => ?_) (by simp)
      rw [List.map_map, List.getElem?_map, Option.map_eq_some_iff] at e
      obtain ⟨x, hx, rfl⟩ := e
      exact (hrd i x hx).2.1
    refine ⟨_, run_bytesToString w _ _ cap _ h1, ?_⟩
    rw [foldl_push]
    have hlim := hrd.lim
    simp only [List.map_map]
    apply List.ext_getElem?
    intro i
    cases hx : xs[i]? with
    | none => simp [hx]
    | some x =>
      have := hlim x (List.mem_of_getElem? hx)
      simp only [lim] at this
      simp [hx]
      omega

theorem toStr_run {src dst : TypeId} {v : SV} {cv : Value} {tr : Tr Out} {rd : List Nat} {out : Out} (hd : P.underlying dst = some .string) (h : (toStr P src v).run H = some (tr, rd)) (hg : tr.get = some out) (hH : RelH cx Wr β H D w) (hv : RelS cx β v cv)
    (hs : ∃ d, P.underlying src = some d) : ∃ y, (Go.convert src dst cv).run P w = .ok y w ∧ Post cx Wr β H D out y w := by
  unfold toStr at h
  split at h
  · obtain rfl := strT_run h hg
    obtain ⟨d, hsd⟩ := hs
    obtain ⟨ba, rfl, rfl⟩ := hv
    refine ⟨.string ba, ?_, post_val hH (RelV.of1 (v := .s _) ⟨ba, rfl, rfl⟩)⟩
    cases d <;> simp [Go.convert, run_underlying hsd, run_underlying hd]
  · split at h
    · rename_i e hsrc
      split at h
      · rename_i he
        obtain ⟨⟨r, xs⟩, l1, l2, h1, h2, rfl⟩ := RM.run_bind h
        obtain ⟨tr', rd', h3, hg, hr⟩ := needs_run h2 hg
        obtain rfl := strT_run h3 hg
        have hx := bytesOf_rel (X := fun _ => True) hH (fun _ _ => trivial) hv h1 hr (fun _ _ _ _ => trivial)
        obtain ⟨ba, h4, h5⟩ := bytesToString_run (P := P) hx
        refine ⟨.string ba, ?_, post_val hH (RelV.of1 (v := .s _) ⟨ba, rfl, h5⟩)⟩
        rcases hx with ⟨_, rfl⟩ | ⟨b, o, cap, rfl, _, _⟩
        · simpa [Go.convert, run_underlying hsrc, run_underlying hd, run_underlying he] using h4
        · simpa [Go.convert, run_underlying hsrc, run_underlying hd, run_underlying he] using h4
      · exact (fail_run h).elim
    · exact (fail_run h).elim

theorem freeze_heap {w : World} {b o n : Nat} {c : Array Value} {T : TypeId} {lo hi : Nat} (h : w.heap[b]? = some (.cells c T (lo, hi))) (hn : n ≠ 0) :
    (w.freeze ⟨b, o, none⟩ n).heap[b]? = some (.cells c T (if lo = hi then (o, o + n) else (min lo o, max hi (o + n)))) ∧ (∀ k, k ≠ b → (w.freeze ⟨b, o, none⟩ n).heap[k]? = w.heap[k]?) ∧ (w.freeze ⟨b, o, none⟩ n).heap.size = w.heap.size := by
  refine ⟨?_, fun k hk => ?_, ?_⟩
  · simp [World.freeze, hn, Array.getElem?_modify, h]
  · simp only [World.freeze, hn, if_false, Array.getElem?_modify]
    rw [if_neg (by omega)]
  · simp [World.freeze, hn]

theorem toBytes_run {src dst e : TypeId} {v : SV} {nx : Nat} {cv : Value} {tr : Tr Out} {rd : List Nat} {out : Out} (hd : P.underlying dst = some (.slice e)) (h : (toBytes P nx e v).run H = some (tr, rd)) (hg : tr.get = some out) (hH : RelH cx Wr β H D w) (hf : Fresh D out) (hv : RelS cx β v cv)
    (hs : ∃ d, P.underlying src = some d) : ∃ y w', (Go.convert src dst cv).run P w = .ok y w' ∧ Post cx Wr β H D out y w' := by
  unfold toBytes at h
  split at h
  · rename_i s
    split at h
    · rename_i he
      obtain ⟨d, hsd⟩ := hs
      obtain rfl := pure_run h
      obtain rfl := leaf_get hg
      obtain ⟨ba, rfl, rfl⟩ := hv
      have hfn : ¬ D nx := hf nx (by simp [lkF_self])
      have hbs : (ba.data.toList.map (·.toNat)).length = ba.size := by simp
      obtain ⟨cap, hcap, hq⟩ : ∃ cap, ba.size ≤ cap ∧ (Question.appendCap ba.size 0 e).cut (w.tape w.drawn (.appendCap ba.size 0 e)) = cap := ⟨_, by simp [Question.cut], rfl⟩
      let els : Array Value := ba.data.map (fun b => Value.int .u8 b.toNat) ++ Array.replicate (cap - ba.size) (.int .u8 0)
      have hels : els.size = cap := by simp [els]; have : ba.data.size = ba.size := rfl; omega
      have h1 := hH.drew.alloc hfn (c := els) (T := e) (relC_one (cx := cx) (β := β) (k := .u8) (xs := ba.data.toList.map (·.toNat)) hbs (fun x hx => by
        obtain ⟨y, _, rfl⟩ := List.mem_map.1 hx; exact y.toNat_lt)) (by rw [hels]; simp; exact hcap) (fun i v hv => by
          rw [List.map_map, List.getElem?_map, Option.map_eq_some_iff] at hv
          obtain ⟨x, hx, rfl⟩ := hv
          have hi := (List.getElem?_eq_some_iff.1 hx).1
          simp only [els]
          rw [Array.getElem?_append_left (by simpa using hi)]
          have hx' : ba.data[i]? = some x := by simpa using hx
          simp [hx'])
      rw [hels] at h1
      have hnew : (w.drew.alloc (.cells els e)).heap[w.heap.size]? = some (.cells els e (0, 0)) := heap_alloc_new w.drew (.cells els e)
      obtain ⟨f1, f2, f3⟩ := freeze_heap (o := cap) (n := 1) hnew (by omega)
      have hrun : (Go.convert src dst (.string ba)).run P w = .ok (.slice (some ⟨w.heap.size, 0, none⟩) ba.size cap) ((w.drew.alloc (.cells els e)).freeze ⟨w.heap.size, cap, none⟩ 1) := by
        have hshape : (w.drew.alloc (.cells els e)).shape? w.heap.size = some (e, cap) := by
          simp only [World.shape?, hnew, hels]
        have hm : (markStringish ⟨w.heap.size, 0, none⟩).run P (w.drew.alloc (.cells els e)) = .ok () ((w.drew.alloc (.cells els e)).freeze ⟨w.heap.size, cap, none⟩ 1) := by
          simp only [markStringish, Sem.run_bind, run_shape, Result.andThen_ok, hshape, run_freeze]
        have hst : (Conv.stringToBytes e ba).run P w = .ok (.slice (some ⟨w.heap.size, 0, none⟩) ba.size cap) ((w.drew.alloc (.cells els e)).freeze ⟨w.heap.size, cap, none⟩ 1) := by
          simp only [Conv.stringToBytes, Sem.run_bind, run_choose, Question.forced, Bool.false_eq_true, if_false, Result.andThen_ok, hq, newRow, run_newObj, Sem.run_pure, World.drew_eq, World.size_drew, World.alloc_eq]
          simp only [els] at hm
          simp only [hm, Result.andThen_ok, els]
        cases d <;> simp only [Go.convert, Sem.run_bind, run_underlying hsd, run_underlying hd, Result.andThen_ok, run_underlying he] <;> exact hst
      refine ⟨_, _, hrun, β.put nx ⟨w.heap.size, 0, cap⟩, Bm.ext_put (hH.none_of_fresh hfn), .inr ⟨⟨w.heap.size, 0, cap⟩, cap, 0, by simp [Bm.put], by rw [hbs], fun _ => rfl, by rw [hbs]; exact hcap, by simp⟩, ?_⟩
      rw [happ_new, dapp_new]
      have h2 := h1.write (n := nx) (p := ⟨w.heap.size, 0, cap⟩) (by simp [Bm.put]) (cs := [.ints .u8 ba.size (ba.data.toList.map (·.toNat))]) (cs' := [.ints .u8 ba.size (ba.data.toList.map (·.toNat))]) (by simp)
        (w' := (w.drew.alloc (.cells els e)).freeze ⟨w.heap.size, cap, none⟩ 1) f3 f2 (by simp [World.freeze]) (by simp [World.freeze]) (by simp [World.freeze]) (by
          obtain ⟨c, T, fr, g1, g2, g3, l, g4, g5, g6⟩ := h1.held nx ⟨w.heap.size, 0, cap⟩ [.ints .u8 ba.size (ba.data.toList.map (·.toNat))] (by simp [Bm.put]) (by simp)
          have g1' : (w.drew.alloc (.cells els e)).heap[w.heap.size]? = some (.cells c T fr) := g1
          rw [hnew] at g1'
          simp only [Option.some.injEq, Obj.cells.injEq] at g1'
          obtain ⟨rfl, rfl, rfl⟩ := g1'
          exact ⟨els, e, _, f1, g2, fun o a1 a2 => by simp at a2 ⊢; omega, l, g4, g5, g6⟩)
      rw [hbs]
      refine h2.mono (fun _ h => h) (fun n c hc => ?_)
      by_cases hn : n = nx
      · simpa [hn] using hc
      · simpa [hn] using hc
    · exact (fail_run h).elim
  · exact (fail_run h).elim

theorem not_nat {b n : Nat} (h : n < 2 ^ b) : 2 ^ b - 1 - n = (2 ^ b - 1) ^^^ n := by
  have h1 : (~~~(BitVec.ofNat b n)).toNat = 2 ^ b - 1 - n := by
    rw [BitVec.toNat_not, BitVec.toNat_ofNat, Nat.mod_eq_of_lt h]
  have h2 : (BitVec.allOnes b ^^^ BitVec.ofNat b n).toNat = (2 ^ b - 1) ^^^ n := by
    rw [BitVec.toNat_xor, BitVec.toNat_allOnes, BitVec.toNat_ofNat, Nat.mod_eq_of_lt h]
  rw [← h1, ← h2, BitVec.allOnes_xor]

theorem unSem_run {op : UnOp} {x : AV} {cv : Value} {tr : Tr Out} {rd : List Nat} {out : Out} (h : (unSem op x).run H = some (tr, rd)) (hg : tr.get = some out) (hH : RelH cx Wr β H D w) (hv : RelV cx β x cv) :
    ∃ y, (Op.unary op cv).run P w = .ok y w ∧ Post cx Wr β H D out y w := by
  unfold unSem at h
  split at h
  · have hv : cv = .bool _ := hv
    subst hv
    split at h
    · obtain rfl := pure_run h
      obtain rfl := oneT_get hg
      exact ⟨_, rfl, post_val hH (RelV.of1 (v := .s _) rfl)⟩
    · exact (fail_run h).elim
  · rename_i k n
    obtain ⟨rfl, hn⟩ := hv
    split at h
    · split at h
      · rename_i hu
        obtain rfl := pure_run h
        obtain rfl := oneT_get hg
        have hpos := lim_pos k
        have hb := lim_bits hu
        refine ⟨.int k ((lim k - 1 - n : Nat) : Int), ?_, post_val hH (RelV.of1 (v := .s _) ⟨rfl, by omega⟩)⟩
        have e : (if k.signed = true then (-1 : Int) else k.max) = ((lim k - 1 : Nat) : Int) := by
          cases k <;> simp [isU] at hu <;> rfl
        have e2 : (Op.unary .xor (.int k (n : Int))) = Op.intBits .xor k ((lim k - 1 : Nat) : Int) (n : Int) := by
          rw [← e]; rfl
        rw [e2]
        refine bits_run _ k _ n _ (by rw [← hb]; omega) (by rw [← hb]; exact hn) (by omega) (.inr (.inr ⟨rfl, ?_⟩))
        rw [hb] at hn ⊢
        exact not_nat hn
      · exact (fail_run h).elim
    · exact (fail_run h).elim
  · exact (fail_run h).elim

theorem pickSem_run {c x y : AV} {cc cvx cvy : Value} {tr : Tr Out} {rd : List Nat} {out : Out} (h : (pickSem c x y).run H = some (tr, rd)) (hg : tr.get = some out) (hH : RelH cx Wr β H D w) (hc : RelV cx β c cc) (hx : RelV cx β x cvx) (hy : RelV cx β y cvy) :
    ∃ t : Bool, cc = .bool t ∧ Post cx Wr β H D out (if t = true then cvx else cvy) w := by
  unfold pickSem at h
  split at h
  · rename_i t a b
    have hc : cc = .bool t := hc
    have hx : cvx = .bool a := hx
    have hy : cvy = .bool b := hy
    subst hc hx hy
    obtain rfl := pure_run h
    obtain rfl := oneT_get hg
    refine ⟨t, rfl, post_val hH (RelV.of1 (v := .s _) ?_)⟩
    cases t <;> rfl
  · rename_i t _
    have hc : cc = .bool t := hc
    subst hc
    split at h
    · obtain rfl := pure_run h
      obtain rfl := leaf_get hg
      exact ⟨true, rfl, post_val hH hx⟩
    · obtain rfl := pure_run h
      obtain rfl := leaf_get hg
      exact ⟨false, rfl, post_val hH hy⟩
  · exact (fail_run h).elim

theorem natT_run {n : Nat} {tr : Tr Out} {rd : List Nat} {out : Out} (h : (natT n).run H = some (tr, rd)) (hg : tr.get = some out) : n < 9223372036854775808 ∧ out = Out.val (.s (.nat .i64 n)) := by
  obtain rfl := pure_run h
  obtain ⟨h0, hg⟩ := Tr.need_get hg
  exact ⟨of_decide_eq_true h0, oneT_get hg⟩

theorem lenSem_run {t : TypeId} {ts : Array TypeId} {ty : TypeId} {x : AV} {cvx : Value} {tr : Tr Out} {rd : List Nat} {out : Out} (h : (lenSem P t x).run H = some (tr, rd)) (hg : tr.get = some out) (hH : RelH cx Wr β H D w) (hx : RelV cx β x cvx) (ht : ts[0]? = some t) :
    ∃ y, (Builtin.len_ ts ty #[cvx]).run P w = .ok y w ∧ Post cx Wr β H D out y w := by
  unfold lenSem at h
  split at h
  · split at h
    · rename_i hu
      obtain ⟨hn, rfl⟩ := natT_run h hg
      obtain ⟨ba, rfl, rfl⟩ := hx
      refine ⟨.int .i64 (ba.size : Int), ?_, post_val hH (RelV.of1 (v := .s _) ⟨by simp, hn⟩)⟩
      simp [Builtin.len_, ht, run_underlying hu, goInt]
    · exact (fail_run h).elim
  · split at h
    · rename_i e hu
      have key : ∀ n base cap, cvx = .slice base n cap → n < 9223372036854775808 → ∃ y, (Builtin.len_ ts ty #[cvx]).run P w = .ok y w ∧ Post cx Wr β H D (Out.val (.s (.nat .i64 n))) y w := by
        intro n base cap hcv hn
        subst hcv
        refine ⟨.int .i64 (n : Int), ?_, post_val hH (RelV.of1 (v := .s _) ⟨rfl, hn⟩)⟩
        simp [Builtin.len_, ht, run_underlying hu, goInt]
      split at h
      · obtain ⟨hn, rfl⟩ := natT_run h hg
        rcases hx with ⟨rfl, rfl⟩ | ⟨q, cap, y, hq, rfl, _⟩
        · exact key _ _ _ rfl hn
        · exact key _ _ _ rfl hn
      · obtain ⟨hn, rfl⟩ := natT_run h hg
        have hx : cvx = .slice none 0 0 := hx
        exact key _ _ _ hx hn
      · obtain ⟨hn, rfl⟩ := natT_run h hg
        rcases hx with ⟨h0, rfl⟩ | ⟨b, o, cap, rfl, _⟩
        · rw [h0] at hn ⊢; exact key _ _ _ rfl hn
        · exact key _ _ _ rfl hn
      · exact (fail_run h).elim
    · exact (fail_run h).elim
  · exact (fail_run h).elim

theorem minSem_run {ts : Array TypeId} {ty : TypeId} {x y : AV} {cvx cvy : Value} {tr : Tr Out} {rd : List Nat} {out : Out} (h : (minSem x y).run H = some (tr, rd)) (hg : tr.get = some out) (hH : RelH cx Wr β H D w) (hx : RelV cx β x cvx) (hy : RelV cx β y cvy) :
    ∃ z, (Builtin.min_ ts ty #[cvx, cvy]).run P w = .ok z w ∧ Post cx Wr β H D out z w := by
  unfold minSem at h
  split at h
  · rename_i a b
    obtain ⟨hn, rfl⟩ := natT_run h hg
    obtain ⟨rfl, _⟩ := hx
    obtain ⟨rfl, _⟩ := hy
    refine ⟨.int .i64 ((min a b : Nat) : Int), ?_, post_val hH (RelV.of1 (v := .s _) ⟨rfl, hn⟩)⟩
    simp only [Builtin.min_, List.foldlM_cons, List.foldlM_nil, Builtin.min2, Sem.run_bind, Sem.run_pure, Result.andThen_ok]
    congr 2
    split <;> omega
  · exact (fail_run h).elim

end
end Go.Proofs.Ytgebgjhjegadpaa

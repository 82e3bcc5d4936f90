/-
  Part 5 of what the last text stands on: The laws AeadBack and AeadTells: what their functions come to.
-/
import Derived.Test.YtgebgjhjegadpaaB4

set_option linter.unusedSimpArgs false
set_option linter.unusedVariables false

namespace Go.Proofs.Ytgebgjhjegadpaa
open Go Go.ChangeShapes Go.WideShapes

set_option maxRecDepth 100000 in
theorem r15 (o : OpsC) (key nonce xs bs : List Nat) : runB Try.prog (envC o) [] .nat 7 Try.f15 [.agg [.ints .u8 32 key, .ints .u8 12 nonce], .s (.xsl (.ints .u8 xs)), .s (.xsl (.ints .u8 bs))] [] =
(nd [decide (xs.length < 9223372036854775808), decide (min xs.length 3000 < 9223372036854775808), decide (min xs.length 3000 ≤ xs.length), decide (bs.length < 9223372036854775808), decide (min bs.length 3000 < 9223372036854775808), decide (min bs.length 3000 ≤ bs.length), decide ((List.take (min xs.length 3000) xs).length < 9223372036854775808), o.okL [List.take (min bs.length 3000) bs]]
 (cond (o.lg (List.take (min xs.length 3000) xs) [List.take (min bs.length 3000) bs])
 (nd [decide ((List.take (min bs.length 3000) bs).length < 9223372036854775808), decide ((List.take (min bs.length 3000) bs).length / 2 ≤ (List.take (min bs.length 3000) bs).length), decide ((List.take (min bs.length 3000) bs).length < 9223372036854775808), decide ((List.take (min bs.length 3000) bs).length / 2 ≤ (List.take (min bs.length 3000) bs).length), o.okL [List.take ((List.take (min bs.length 3000) bs).length / 2) (List.take (min bs.length 3000) bs), [], List.drop ((List.take (min bs.length 3000) bs).length / 2) (List.take (min bs.length 3000) bs)]]
 (cond (o.lo [] [List.take ((List.take (min bs.length 3000) bs).length / 2) (List.take (min bs.length 3000) bs), [], List.drop ((List.take (min bs.length 3000) bs).length / 2) (List.take (min bs.length 3000) bs)])
 (some (AV.s (SV.bool false), []))
 (some (AV.s (SV.bool false), []))))
 (nd [decide ((List.take (min bs.length 3000) bs).length < 9223372036854775808), decide ((List.take (min bs.length 3000) bs).length / 2 ≤ (List.take (min bs.length 3000) bs).length), decide ((List.take (min bs.length 3000) bs).length < 9223372036854775808), decide ((List.take (min bs.length 3000) bs).length / 2 ≤ (List.take (min bs.length 3000) bs).length), decide ((List.take (min xs.length 3000) xs).length + 16 = (List.take (min xs.length 3000) xs).length + 16), decide ((o.sl key nonce (List.take (min xs.length 3000) xs) (o.cat [List.take (min bs.length 3000) bs] 1)).length < 9223372036854775808), o.okL [List.take ((List.take (min bs.length 3000) bs).length / 2) (List.take (min bs.length 3000) bs), [], List.drop ((List.take (min bs.length 3000) bs).length / 2) (List.take (min bs.length 3000) bs)]]
 (cond (o.lo (o.sl key nonce (List.take (min xs.length 3000) xs) (o.cat [List.take (min bs.length 3000) bs] 1)) [List.take ((List.take (min bs.length 3000) bs).length / 2) (List.take (min bs.length 3000) bs), [], List.drop ((List.take (min bs.length 3000) bs).length / 2) (List.take (min bs.length 3000) bs)])
 (some (AV.s (SV.bool false), []))
 (cond (decide ((o.sl key nonce (List.take (min xs.length 3000) xs) (o.cat [List.take (min bs.length 3000) bs] 1)).length < 16))
 (some (AV.s (SV.bool false), []))
 (cond (o.eq (o.mac key nonce (o.op (o.sl key nonce (List.take (min xs.length 3000) xs) (o.cat [List.take (min bs.length 3000) bs] 1))) (o.cat [List.take ((List.take (min bs.length 3000) bs).length / 2) (List.take (min bs.length 3000) bs), [], List.drop ((List.take (min bs.length 3000) bs).length / 2) (List.take (min bs.length 3000) bs)] 3)) (o.ls (o.sl key nonce (List.take (min xs.length 3000) xs) (o.cat [List.take (min bs.length 3000) bs] 1))))
 (nd [decide ((o.sl key nonce (List.take (min xs.length 3000) xs) (o.cat [List.take (min bs.length 3000) bs] 1)).length - 16 = (o.sl key nonce (List.take (min xs.length 3000) xs) (o.cat [List.take (min bs.length 3000) bs] 1)).length - 16)]
 (cond (!decide (o.mx key nonce (o.op (o.sl key nonce (List.take (min xs.length 3000) xs) (o.cat [List.take (min bs.length 3000) bs] 1))) = List.take (min xs.length 3000) xs))
 (some (AV.s (SV.bool false), []))
 (nd [decide ((List.take (min xs.length 3000) xs).length + 16 < 9223372036854775808), decide ((List.take (min xs.length 3000) xs).length < 9223372036854775808), decide ((List.take (min xs.length 3000) xs).length + 16 < 9223372036854775808)]
 (cond (!decide ((List.take (min xs.length 3000) xs).length + 16 = (List.take (min xs.length 3000) xs).length + 16))
 (some (AV.s (SV.bool false), []))
 (nd [decide ((List.take (min xs.length 3000) xs).length + 16 < 9223372036854775808), decide ((List.take (min ((List.take (min xs.length 3000) xs).length + 16) 15) (o.sl key nonce (List.take (min xs.length 3000) xs) (o.cat [List.take (min bs.length 3000) bs] 1))).length < 9223372036854775808), o.okL [List.take (min bs.length 3000) bs]]
 (cond (o.lo (List.take (min ((List.take (min xs.length 3000) xs).length + 16) 15) (o.sl key nonce (List.take (min xs.length 3000) xs) (o.cat [List.take (min bs.length 3000) bs] 1))) [List.take (min bs.length 3000) bs])
 (some (AV.s (SV.bool (decide (2 = 111))), []))
 (cond (decide ((List.take (min ((List.take (min xs.length 3000) xs).length + 16) 15) (o.sl key nonce (List.take (min xs.length 3000) xs) (o.cat [List.take (min bs.length 3000) bs] 1))).length < 16))
 (some (AV.s (SV.bool (decide (111 = 111))), []))
 (cond (o.eq (o.mac key nonce (o.op (List.take (min ((List.take (min xs.length 3000) xs).length + 16) 15) (o.sl key nonce (List.take (min xs.length 3000) xs) (o.cat [List.take (min bs.length 3000) bs] 1)))) (o.cat [List.take (min bs.length 3000) bs] 1)) (o.ls (List.take (min ((List.take (min xs.length 3000) xs).length + 16) 15) (o.sl key nonce (List.take (min xs.length 3000) xs) (o.cat [List.take (min bs.length 3000) bs] 1)))))
 (some (AV.s (SV.bool (decide (0 = 111))), []))
 (some (AV.s (SV.bool (decide (100 = 111))), []))))))))))
 (some (AV.s (SV.bool false), [])))))))) := by kernel_rfl

set_option maxRecDepth 100000 in
theorem r16 (o : OpsC) (key nonce xs bs : List Nat) : runB Try.prog (envC o) [] .nat 7 Try.f16 [.agg [.ints .u8 32 key, .ints .u8 12 nonce], .s (.xsl (.ints .u8 xs)), .agg [.ints .u8 16 bs]] [] =
(nd [decide (xs.length < 9223372036854775808), decide (min xs.length 1000 < 9223372036854775808), decide (min xs.length 1000 ≤ xs.length), decide ((List.take (min xs.length 1000) xs).length < 9223372036854775808), o.okL []]
 (cond (o.lg (List.take (min xs.length 1000) xs) [])
 (some (AV.s (SV.bool false), []))
 (nd [decide ((List.take (min xs.length 1000) xs).length + 16 < 9223372036854775808), decide ((List.take (min xs.length 1000) xs).length + 16 - 16 ≤ (List.take (min xs.length 1000) xs).length + 16), decide ((List.take (min xs.length 1000) xs).length + 16 - 16 + ((List.take (min xs.length 1000) xs).length + 16 - ((List.take (min xs.length 1000) xs).length + 16 - 16)) = (List.take (min xs.length 1000) xs).length + 16), decide ((List.take (min xs.length 1000) xs).length + 16 - 16 ≤ (List.take (min xs.length 1000) xs).length + 16), decide ((List.take (min xs.length 1000) xs).length + 16 - 16 ≤ (List.take (min xs.length 1000) xs).length + 16), decide (0 + ((List.take (min xs.length 1000) xs).length + 16 - 16) ≤ 4398046511104), decide (0 + ((List.take (min xs.length 1000) xs).length + 16 - 16) = 0 + ((List.take (min xs.length 1000) xs).length + 16 - 16)), decide (0 + ((List.take (min xs.length 1000) xs).length + 16 - 16) + 16 ≤ 4398046511104), decide (0 + ((List.take (min xs.length 1000) xs).length + 16 - 16) + 16 = 0 + ((List.take (min xs.length 1000) xs).length + 16 - 16) + 16), decide ((List.take ((List.take (min xs.length 1000) xs).length + 16 - 16) (o.sl key nonce (List.take (min xs.length 1000) xs) (o.cat [] 0)) ++ bs).length < 9223372036854775808), o.okL []]
 (cond (o.lo (List.take ((List.take (min xs.length 1000) xs).length + 16 - 16) (o.sl key nonce (List.take (min xs.length 1000) xs) (o.cat [] 0)) ++ bs) [])
 (cond (decide (List.drop ((List.take (min xs.length 1000) xs).length + 16 - 16) (o.sl key nonce (List.take (min xs.length 1000) xs) (o.cat [] 0)) = bs))
 (cond (!decide (List.drop ((List.take (min xs.length 1000) xs).length + 16 - 16) (o.sl key nonce (List.take (min xs.length 1000) xs) (o.cat [] 0)) = bs))
 (some (AV.s (SV.bool false), []))
 (some (AV.s (SV.bool false), [])))
 (cond (!decide (List.drop ((List.take (min xs.length 1000) xs).length + 16 - 16) (o.sl key nonce (List.take (min xs.length 1000) xs) (o.cat [] 0)) = bs))
 (some (AV.s (SV.bool false), []))
 (some (AV.s (SV.bool false), []))))
 (cond (decide ((List.take ((List.take (min xs.length 1000) xs).length + 16 - 16) (o.sl key nonce (List.take (min xs.length 1000) xs) (o.cat [] 0)) ++ bs).length < 16))
 (cond (decide (List.drop ((List.take (min xs.length 1000) xs).length + 16 - 16) (o.sl key nonce (List.take (min xs.length 1000) xs) (o.cat [] 0)) = bs))
 (cond (!decide (List.drop ((List.take (min xs.length 1000) xs).length + 16 - 16) (o.sl key nonce (List.take (min xs.length 1000) xs) (o.cat [] 0)) = bs))
 (some (AV.s (SV.bool false), []))
 (some (AV.s (SV.bool false), [])))
 (cond (!decide (List.drop ((List.take (min xs.length 1000) xs).length + 16 - 16) (o.sl key nonce (List.take (min xs.length 1000) xs) (o.cat [] 0)) = bs))
 (some (AV.s (SV.bool false), []))
 (some (AV.s (SV.bool false), []))))
 (cond (o.eq (o.mac key nonce (o.op (List.take ((List.take (min xs.length 1000) xs).length + 16 - 16) (o.sl key nonce (List.take (min xs.length 1000) xs) (o.cat [] 0)) ++ bs)) (o.cat [] 0)) (o.ls (List.take ((List.take (min xs.length 1000) xs).length + 16 - 16) (o.sl key nonce (List.take (min xs.length 1000) xs) (o.cat [] 0)) ++ bs)))
 (cond (decide (List.drop ((List.take (min xs.length 1000) xs).length + 16 - 16) (o.sl key nonce (List.take (min xs.length 1000) xs) (o.cat [] 0)) = bs))
 (nd [decide ((List.take ((List.take (min xs.length 1000) xs).length + 16 - 16) (o.sl key nonce (List.take (min xs.length 1000) xs) (o.cat [] 0)) ++ bs).length - 16 = (List.take ((List.take (min xs.length 1000) xs).length + 16 - 16) (o.sl key nonce (List.take (min xs.length 1000) xs) (o.cat [] 0)) ++ bs).length - 16)]
 (cond (decide (o.mx key nonce (o.op (List.take ((List.take (min xs.length 1000) xs).length + 16 - 16) (o.sl key nonce (List.take (min xs.length 1000) xs) (o.cat [] 0)) ++ bs)) = List.take (min xs.length 1000) xs))
 (some (AV.s (SV.bool true), []))
 (cond (!decide (List.drop ((List.take (min xs.length 1000) xs).length + 16 - 16) (o.sl key nonce (List.take (min xs.length 1000) xs) (o.cat [] 0)) = bs))
 (some (AV.s (SV.bool false), []))
 (some (AV.s (SV.bool false), [])))))
 (cond (!decide (List.drop ((List.take (min xs.length 1000) xs).length + 16 - 16) (o.sl key nonce (List.take (min xs.length 1000) xs) (o.cat [] 0)) = bs))
 (some (AV.s (SV.bool false), []))
 (some (AV.s (SV.bool false), []))))
 (cond (decide (List.drop ((List.take (min xs.length 1000) xs).length + 16 - 16) (o.sl key nonce (List.take (min xs.length 1000) xs) (o.cat [] 0)) = bs))
 (cond (!decide (List.drop ((List.take (min xs.length 1000) xs).length + 16 - 16) (o.sl key nonce (List.take (min xs.length 1000) xs) (o.cat [] 0)) = bs))
 (some (AV.s (SV.bool (decide (0 = 0))), []))
 (some (AV.s (SV.bool false), [])))
 (cond (!decide (List.drop ((List.take (min xs.length 1000) xs).length + 16 - 16) (o.sl key nonce (List.take (min xs.length 1000) xs) (o.cat [] 0)) = bs))
 (some (AV.s (SV.bool (decide (0 = 0))), []))
 (some (AV.s (SV.bool false), [])))))))))) := by kernel_rfl

theorem ctr15 {key nonce xs bs : List Nat} (h1 : xs.length < 9223372036854775808) (h2 : bs.length < 9223372036854775808) :
    Ctr Try.prog 15 [.agg [.ints .u8 32 key, .ints .u8 12 nonce], .s (.xsl (.ints .u8 xs)), .s (.xsl (.ints .u8 bs))] [] (.s (.bool true)) [] := by
  refine ctrB (fs := envC opsC) (xs := []) (m := .nat) (fuel := 7) envC_ok fn15 ?_
  have hX := take_min xs 3000
  have hB := take_min bs 3000
  rw [r15, opsC_sl, opsC_mx, opsC_mac, opsC_okL, opsC_cat, opsC_op, opsC_ls]
  generalize hx : List.take (min xs.length 3000) xs = X at *
  generalize hb : List.take (min bs.length 3000) bs = B at *
  rw [catN_1, cat3, opT_slT, lsT_slT, mx_mx, slT_len, List.append_nil, List.take_append_drop]
  have hl3 : lenN [List.take (B.length / 2) B, [], List.drop (B.length / 2) B] 3 = B.length := by
    rw [len3, List.length_take, List.length_drop, List.length_nil]
    omega
  have hl1 := lenN_1 B
  have k1 : okLens [B] = true := okL_1 (by omega)
  have k3 : okLens [List.take (B.length / 2) B, [], List.drop (B.length / 2) B] = true := okL_of fun p hp => by
    simp only [List.mem_cons, List.not_mem_nil, or_false] at hp
    rcases hp with rfl | rfl | rfl
    · rw [List.length_take]; omega
    · decide
    · rw [List.length_drop]; omega
  have g1 : opsC.lg X [B] = false := lg_small (by omega) (by show lenN [B] 1 ≤ _; omega)
  have g2 : opsC.lo (slT key nonce X B) [List.take (B.length / 2) B, [], List.drop (B.length / 2) B] = false := lo_small (by rw [slT_len]; omega) (by show lenN _ 3 ≤ _; omega)
  have ht : (List.take (min (X.length + 16) 15) (slT key nonce X B)).length = 15 := by
    rw [List.length_take, slT_len]
    omega
  have g3 : opsC.lo (List.take (min (X.length + 16) 15) (slT key nonce X B)) [B] = false := lo_small (by omega) (by show lenN [B] 1 ≤ _; omega)
  rw [ht]
  refine nd_of ?_ (cond_f g1 (nd_of ?_ (cond_f g2 (cond_f (decide_eq_false (by omega)) (cond_t (eq_true' rfl) (nd_of ?_ (cond_f ?_ (nd_of ?_ (cond_f ?_ (nd_of ?_ (cond_f g3 (cond_t (decide_eq_true (by decide)) ?_))))))))))))
  · simp only [List.mem_cons, List.not_mem_nil, or_false, forall_eq_or_imp, forall_eq, decide_eq_true_eq]
    exact ⟨h1, by omega, by omega, h2, by omega, by omega, by omega, k1⟩
  · simp only [List.mem_cons, List.not_mem_nil, or_false, forall_eq_or_imp, forall_eq, decide_eq_true_eq]
    exact ⟨by omega, by omega, by omega, by omega, trivial, by omega, k3⟩
  · simp only [List.mem_cons, List.not_mem_nil, or_false, forall_eq, decide_eq_true_eq]
  · rw [decide_eq_true rfl]; rfl
  · simp only [List.mem_cons, List.not_mem_nil, or_false, forall_eq_or_imp, forall_eq, decide_eq_true_eq]
    exact ⟨by omega, by omega, by omega⟩
  · rw [decide_eq_true rfl]; rfl
  · simp only [List.mem_cons, List.not_mem_nil, or_false, forall_eq_or_imp, forall_eq, decide_eq_true_eq]
    exact ⟨by omega, by omega, k1⟩
  · rfl

theorem ctr16 {key nonce xs bs : List Nat} (h1 : xs.length < 9223372036854775808) (hl : bs.length = 16) :
    Ctr Try.prog 16 [.agg [.ints .u8 32 key, .ints .u8 12 nonce], .s (.xsl (.ints .u8 xs)), .agg [.ints .u8 16 bs]] [] (.s (.bool true)) [] := by
  refine ctrB (fs := envC opsC) (xs := []) (m := .nat) (fuel := 7) envC_ok fn16 ?_
  have hX := take_min xs 1000
  rw [r16, opsC_sl, opsC_mx, opsC_mac, opsC_okL, opsC_cat, opsC_op, opsC_ls]
  generalize hx : List.take (min xs.length 1000) xs = X at *
  have e0 : catN [] 0 = [] := rfl
  rw [e0]
  have et : List.take (X.length + 16 - 16) (slT key nonce X []) = mxT key nonce X := by
    have := opT_slT key nonce X []
    unfold opT at this
    rwa [slT_len] at this
  have ed : List.drop (X.length + 16 - 16) (slT key nonce X []) = macT key nonce (mxT key nonce X) [] := by
    have := lsT_slT key nonce X []
    unfold lsT at this
    rwa [slT_len] at this
  have hml := mxT_len key nonce X
  have hL : (mxT key nonce X ++ bs).length = X.length + 16 := by rw [List.length_append, hml, hl]
  have eo : opT (mxT key nonce X ++ bs) = mxT key nonce X := by
    unfold opT
    rw [hL, Nat.add_sub_cancel, ← hml, List.take_left' rfl]
  have es : lsT (mxT key nonce X ++ bs) = bs := by
    unfold lsT
    rw [hL, Nat.add_sub_cancel, ← hml, List.drop_left' rfl]
  rw [et, ed, eo, es, mx_mx, hL]
  have k0 : okLens [] = true := rfl
  have g1 : opsC.lg X [] = false := lg_small (by omega) (by decide)
  have g2 : opsC.lo (mxT key nonce X ++ bs) [] = false := lo_small (by omega) (by decide)
  refine nd_of ?_ (cond_f g1 (nd_of ?_ (cond_f g2 (cond_f (decide_eq_false (by omega)) ?_))))
  · simp only [List.mem_cons, List.not_mem_nil, or_false, forall_eq_or_imp, forall_eq, decide_eq_true_eq]
    exact ⟨h1, by omega, by omega, by omega, k0⟩
  · simp only [List.mem_cons, List.not_mem_nil, or_false, forall_eq_or_imp, forall_eq, decide_eq_true_eq]
    exact ⟨by omega, by omega, by omega, by omega, by omega, by omega, trivial, by omega, trivial, by omega, k0⟩
  · by_cases he : macT key nonce (mxT key nonce X) [] = bs
    · refine cond_t (eq_true' he) (cond_t (decide_eq_true he) (nd_of ?_ (cond_t (decide_eq_true rfl) rfl)))
      simp only [List.mem_cons, List.not_mem_nil, or_false, forall_eq, decide_eq_true_eq]
    · have hf : opsC.eq (macT key nonce (mxT key nonce X) []) bs = false := by
        rw [opsC_eq]
        exact decide_eq_false he
      refine cond_f hf (cond_f (decide_eq_false he) (cond_t ?_ rfl))
      rw [decide_eq_false he]
      rfl

/-! Arguments. -/
section
variable {H : Type} {enc : TypeId × Value → H} {P : Program} {W : World} {r : Reach} {b0 base : Nat} {spare : Nat → Bool} {held : Bool} {t : TypeId} {v : Value} {d : DataW H} {ps : List MemPlace}

/-- A key with its nonce, by value. -/
theorem open_boxV {f0 f1 : Field} {e : TypeId} (ht : P.underlying t = some (.struct #[f0, f1])) (he : P.underlying e = some (.int .u8)) (hce : P.cellsOf e = 1)
    (h0 : P.underlying f0.type = some (.array 32 e)) (c0 : P.cellsOf f0.type = 32) (h1 : P.underlying f1.type = some (.array 12 e)) (c1 : P.cellsOf f1.type = 12) (o0 : f0.offset = 0) (o1 : f1.offset = 32) (ct : P.cellsOf t = 44)
    (hval : Value.okWide P W r b0 t v) (hd : DataW.Trod enc P W base spare held t v d ps) :
    ∃ xs ys : List Nat, xs.length = 32 ∧ (∀ x ∈ xs, x < 256) ∧ ys.length = 12 ∧ (∀ y ∈ ys, y < 256) ∧ v = .agg (xs.map (fun x : Nat => Value.int .u8 x) ++ ys.map (fun x : Nat => Value.int .u8 x)).toArray := by
  obtain ⟨fuel, hd⟩ := hd
  simp only [Value.okWide, ht] at hval
  obtain ⟨cs, rfl, _, _⟩ := hval
  obtain ⟨y0, y1, n, _, hl, g0, g1⟩ := trod_struct2 ht hd
  rw [o0, c0] at g0
  rw [o1, c1] at g1
  obtain ⟨xs, x1, x2, x3⟩ := open_arrC (k := .u8) rfl he hce h0 c0 g0
  obtain ⟨ys, z1, z2, z3⟩ := open_arrC (k := .u8) rfl he hce h1 c1 g1
  refine ⟨xs, ys, x1, x2, z1, z2, ?_⟩
  have hc : (Value.agg cs).cells.toList.length = 44 := by rw [hl, ct]
  congr 1
  apply Array.ext'
  have e : (Value.agg cs).cells.toList = cs.toList := by simp [Value.cells]
  rw [e] at x3 z3 hc
  rw [← x3, ← z3]
  simp only [List.drop_zero]
  rw [List.take_of_length_le (l := List.drop 32 cs.toList) (by rw [List.length_drop]; omega), List.take_append_drop]

theorem relBox {cx : Cx} {β : Bm} {xs ys : List Nat} (h1 : xs.length = 32) (h2 : ∀ x ∈ xs, x < 256) (h3 : ys.length = 12) (h4 : ∀ y ∈ ys, y < 256) :
    RelV cx β (.agg [.ints .u8 32 xs, .ints .u8 12 ys]) (.agg (xs.map (fun x : Nat => Value.int .u8 x) ++ ys.map (fun x : Nat => Value.int .u8 x)).toArray) :=
  ⟨_, rfl, h1, h2, _, rfl, h3, h4, [], by simp, rfl⟩
end

theorem u58 : Try.prog.underlying 58 = some (.struct #[{ name := "Key", type := 23, offset := 0, embedded := false, tag := "", pkgPath := "", byteOffset := 0 }, { name := "Nonce", type := 25, offset := 32, embedded := false, tag := "", pkgPath := "", byteOffset := 32 }]) := by kernel_rfl
theorem c58 : Try.prog.cellsOf 58 = 44 := by kernel_rfl

end Go.Proofs.Ytgebgjhjegadpaa

namespace Go.Proofs.Ytgebgjhjegadpaa
open Go Go.ChangeShapes Go.WideShapes

def nI (p : Int) : Nat := (Int.ofNat 1048576 + p).toNat

set_option maxRecDepth 100000 in
theorem r17 (o : OpsC) (key nonce : List Nat) (p q : Int) : runB Try.prog (envC o) [] .nat 7 Try.f17 [.agg [.one (.int p), .one (.int q)], .agg [.ints .u8 32 key, .ints .u8 12 nonce]] [] =
(cond (decide (p < Int.negSucc 1))
 (some (AV.s (SV.bool true), []))
 (cond (decide (Int.ofNat 2 < p))
 (some (AV.s (SV.bool true), []))
 (cond (decide (q < Int.negSucc 1))
 (some (AV.s (SV.bool true), []))
 (cond (decide (Int.ofNat 2 < q))
 (some (AV.s (SV.bool true), []))
 (nd [decide (Int.negSucc 9223372036854775807 ≤ Int.ofNat 1048576 + p) && decide (Int.ofNat 1048576 + p < Int.ofNat 9223372036854775808), decide (Int.ofNat 0 ≤ Int.ofNat 1048576 + p), decide (Int.ofNat 0 ≤ Int.ofNat 1048576 + p), decide ((nI p) ≤ (nI p)), decide ((nI p) ≤ 4398046511104), decide (Int.negSucc 9223372036854775807 ≤ Int.ofNat 1048576 + q) && decide (Int.ofNat 1048576 + q < Int.ofNat 9223372036854775808), decide (Int.ofNat 0 ≤ Int.ofNat 1048576 + q), decide (Int.ofNat 0 ≤ Int.ofNat 1048576 + q), decide ((nI q) ≤ (nI q)), decide ((nI q) ≤ 4398046511104), decide (9 ≤ (nI q)), decide (9 ≤ (nI q)), decide ((nI p) = (nI p)), decide (9 ≤ (nI q)), decide (9 + ((nI q) - 9) = (nI q)), decide ((List.replicate (nI p) 0).length < 9223372036854775808), o.okL [List.take 9 (List.replicate (nI q) 0), List.drop 9 (List.replicate (nI q) 0)]]
 (cond (o.lg (List.replicate (nI p) 0) [List.take 9 (List.replicate (nI q) 0), List.drop 9 (List.replicate (nI q) 0)])
 (cond (decide (Int.ofNat 0 < p))
 (nd [decide ((nI p) < 9223372036854775808), decide ((nI p) + 16 < 9223372036854775808), decide ((nI p) + 16 ≤ (nI p) + 16), decide ((nI p) + 16 ≤ 4398046511104), decide ((nI p) + 16 = (nI p) + 16), decide ((nI q) = (nI q)), decide ((List.replicate ((nI p) + 16) 0).length < 9223372036854775808), o.okL [List.replicate (nI q) 0]]
 (cond (o.lo (List.replicate ((nI p) + 16) 0) [List.replicate (nI q) 0])
 (some (AV.s (SV.bool (decide (0 = 0))), []))
 (cond (o.eq (o.mac key nonce (o.op (List.replicate ((nI p) + 16) 0)) (o.cat [List.replicate (nI q) 0] 1)) (o.ls (List.replicate ((nI p) + 16) 0)))
 (some (AV.s (SV.bool false), []))
 (some (AV.s (SV.bool false), [])))))
 (cond (decide (Int.ofNat 0 < q))
 (nd [decide ((nI p) < 9223372036854775808), decide ((nI p) + 16 < 9223372036854775808), decide ((nI p) + 16 ≤ (nI p) + 16), decide ((nI p) + 16 ≤ 4398046511104), decide ((nI p) + 16 = (nI p) + 16), decide ((nI q) = (nI q)), decide ((List.replicate ((nI p) + 16) 0).length < 9223372036854775808), o.okL [List.replicate (nI q) 0]]
 (cond (o.lo (List.replicate ((nI p) + 16) 0) [List.replicate (nI q) 0])
 (some (AV.s (SV.bool (decide (0 = 0))), []))
 (cond (o.eq (o.mac key nonce (o.op (List.replicate ((nI p) + 16) 0)) (o.cat [List.replicate (nI q) 0] 1)) (o.ls (List.replicate ((nI p) + 16) 0)))
 (some (AV.s (SV.bool false), []))
 (some (AV.s (SV.bool false), [])))))
 (some (AV.s (SV.bool false), []))))
 (cond (decide (Int.ofNat 0 < p))
 (nd [decide ((nI p) < 9223372036854775808), decide ((nI p) + 16 < 9223372036854775808), decide ((nI p) + 16 ≤ (nI p) + 16), decide ((nI p) + 16 ≤ 4398046511104), decide ((nI p) + 16 = (nI p) + 16), decide ((nI q) = (nI q)), decide ((List.replicate ((nI p) + 16) 0).length < 9223372036854775808), o.okL [List.replicate (nI q) 0]]
 (cond (o.lo (List.replicate ((nI p) + 16) 0) [List.replicate (nI q) 0])
 (some (AV.s (SV.bool false), []))
 (cond (o.eq (o.mac key nonce (o.op (List.replicate ((nI p) + 16) 0)) (o.cat [List.replicate (nI q) 0] 1)) (o.ls (List.replicate ((nI p) + 16) 0)))
 (some (AV.s (SV.bool false), []))
 (some (AV.s (SV.bool false), [])))))
 (cond (decide (Int.ofNat 0 < q))
 (nd [decide ((nI p) < 9223372036854775808), decide ((nI p) + 16 < 9223372036854775808), decide ((nI p) + 16 ≤ (nI p) + 16), decide ((nI p) + 16 ≤ 4398046511104), decide ((nI p) + 16 = (nI p) + 16), decide ((nI q) = (nI q)), decide ((List.replicate ((nI p) + 16) 0).length < 9223372036854775808), o.okL [List.replicate (nI q) 0]]
 (cond (o.lo (List.replicate ((nI p) + 16) 0) [List.replicate (nI q) 0])
 (some (AV.s (SV.bool false), []))
 (cond (o.eq (o.mac key nonce (o.op (List.replicate ((nI p) + 16) 0)) (o.cat [List.replicate (nI q) 0] 1)) (o.ls (List.replicate ((nI p) + 16) 0)))
 (some (AV.s (SV.bool false), []))
 (some (AV.s (SV.bool false), [])))))
 (nd [decide ((List.replicate (nI p) 0).length + 16 < 9223372036854775808), decide ((nI p) < 9223372036854775808), decide ((nI p) + 16 < 9223372036854775808)]
 (some (AV.s (SV.bool (decide ((List.replicate (nI p) 0).length + 16 = (nI p) + 16))), []))))))))))) := by kernel_rfl

theorem two_len {M : Nat} (h : 9 ≤ M) : lenN [List.take 9 (List.replicate M 0), List.drop 9 (List.replicate M 0)] 2 = M := by
  simp only [lenN, List.getD_cons_zero, List.getD_cons_succ, List.length_take, List.length_drop, List.length_replicate]
  omega

theorem okL_2 {M : Nat} (h : M < 9223372036854775808) : okLens [List.take 9 (List.replicate M 0), List.drop 9 (List.replicate M 0)] = true := okL_of fun p hp => by
  simp only [List.mem_cons, List.not_mem_nil, or_false] at hp
  rcases hp with rfl | rfl
  · rw [List.length_take, List.length_replicate]; omega
  · rw [List.length_drop, List.length_replicate]; omega

theorem nd_ints {p : Int} (h1 : -2 ≤ p) (h2 : p ≤ 2) : (decide (Int.negSucc 9223372036854775807 ≤ Int.ofNat 1048576 + p) && decide (Int.ofNat 1048576 + p < Int.ofNat 9223372036854775808)) = true ∧ (Int.ofNat 0 ≤ Int.ofNat 1048576 + p) ∧ nI p ≤ 1048578 ∧ 1048574 ≤ nI p ∧ (nI p : Int) = 1048576 + p := by
  have e : (nI p : Int) = 1048576 + p := by
    unfold nI
    rw [Int.toNat_of_nonneg (by simp only [Int.ofNat_eq_natCast]; omega)]
    rfl
  refine ⟨?_, by simp only [Int.ofNat_eq_natCast]; omega, by omega, by omega, e⟩
  rw [Bool.and_eq_true]
  refine ⟨decide_eq_true ?_, decide_eq_true ?_⟩
  · have : Int.negSucc 9223372036854775807 = -9223372036854775808 := rfl
    rw [this]
    simp only [Int.ofNat_eq_natCast]
    omega
  · simp only [Int.ofNat_eq_natCast]
    omega

theorem negS1 : Int.negSucc 1 = -2 := rfl

theorem lgBig {n : Nat} {pss : List (List Nat)} (h : 1048576 < n ∨ 1048576 < lenN pss pss.length) : opsC.lg (List.replicate n 0) pss = true := by
  rw [opsC_lg]
  show (decide (1048576 < (List.replicate n 0).length) || lonB pss) = true
  rw [List.length_replicate]
  rcases h with h | h
  · rw [decide_eq_true h]; rfl
  · rw [show lonB pss = true from decide_eq_true h, Bool.or_true]
theorem loBig {n : Nat} {pss : List (List Nat)} (h : 1048592 < n ∨ 1048576 < lenN pss pss.length) : opsC.lo (List.replicate n 0) pss = true := by
  rw [opsC_lo]
  show (decide (1048592 < (List.replicate n 0).length) || lonB pss) = true
  rw [List.length_replicate]
  rcases h with h | h
  · rw [decide_eq_true h]; rfl
  · rw [show lonB pss = true from decide_eq_true h, Bool.or_true]

theorem ctr17 {key nonce : List Nat} (p q : Int) : Ctr Try.prog 17 [.agg [.one (.int p), .one (.int q)], .agg [.ints .u8 32 key, .ints .u8 12 nonce]] [] (.s (.bool true)) [] := by
  refine ctrB (fs := envC opsC) (xs := []) (m := .nat) (fuel := 7) envC_ok fn17 ?_
  rw [r17, opsC_okL, negS1]
  by_cases p1 : p < -2
  · exact cond_t (decide_eq_true p1) rfl
  by_cases p2 : 2 < p
  · exact cond_f (decide_eq_false p1) (cond_t (decide_eq_true p2) rfl)
  by_cases q1 : q < -2
  · exact cond_f (decide_eq_false p1) (cond_f (decide_eq_false p2) (cond_t (decide_eq_true q1) rfl))
  by_cases q2 : 2 < q
  · exact cond_f (decide_eq_false p1) (cond_f (decide_eq_false p2) (cond_f (decide_eq_false q1) (cond_t (decide_eq_true q2) rfl)))
  obtain ⟨a1, a2, a3, a4, a5⟩ := nd_ints (p := p) (by omega) (by omega)
  obtain ⟨b1, b2, b3, b4, b5⟩ := nd_ints (p := q) (by omega) (by omega)
  have hl2 := two_len (M := nI q) (by omega)
  have hk2 := okL_2 (M := nI q) (by omega)
  have hk1 : okLens [List.replicate (nI q) 0] = true := okL_1 (by rw [List.length_replicate]; omega)
  have hl1 : lenN [List.replicate (nI q) 0] 1 = nI q := by rw [lenN_1, List.length_replicate]
  refine cond_f (decide_eq_false p1) (cond_f (decide_eq_false p2) (cond_f (decide_eq_false q1) (cond_f (decide_eq_false q2) (nd_of ?_ ?_))))
  · simp only [List.mem_cons, List.not_mem_nil, or_false, forall_eq_or_imp, forall_eq, decide_eq_true_eq, List.length_replicate, a1, b1, true_and]
    exact ⟨a2, a2, Nat.le_refl _, by omega, b2, b2, Nat.le_refl _, by omega, by omega, by omega, by omega, by omega, by omega, hk2⟩
  by_cases hp : 0 < p
  · refine cond_t (lgBig (.inl (by omega))) (cond_t (decide_eq_true hp) (nd_of ?_ (cond_t (loBig (.inl (by omega))) rfl)))
    simp only [List.mem_cons, List.not_mem_nil, or_false, forall_eq_or_imp, forall_eq, decide_eq_true_eq, List.length_replicate, true_and]
    exact ⟨by omega, by omega, Nat.le_refl _, by omega, by omega, hk1⟩
  · by_cases hq : 0 < q
    · refine cond_t (lgBig (.inr (by show 1048576 < lenN _ 2; omega))) (cond_f (decide_eq_false hp) (cond_t (decide_eq_true hq) (nd_of ?_ (cond_t (loBig (.inr (by show 1048576 < lenN _ 1; omega))) rfl))))
      simp only [List.mem_cons, List.not_mem_nil, or_false, forall_eq_or_imp, forall_eq, decide_eq_true_eq, List.length_replicate, true_and]
      exact ⟨by omega, by omega, Nat.le_refl _, by omega, by omega, hk1⟩
    · refine cond_f (lg_small (by rw [List.length_replicate]; omega) (by show lenN _ 2 ≤ _; omega)) (cond_f (decide_eq_false hp) (cond_f (decide_eq_false hq) (nd_of ?_ ?_)))
      · simp only [List.mem_cons, List.not_mem_nil, or_false, forall_eq_or_imp, forall_eq, decide_eq_true_eq, List.length_replicate, true_and]
        first | omega | exact ⟨by omega, by omega⟩
      · simp

/-! Two numbers, by value. -/
section
variable {H : Type} {enc : TypeId × Value → H} {P : Program} {W : World} {r : Reach} {b0 base : Nat} {spare : Nat → Bool} {held : Bool} {t e : TypeId} {v : Value} {d : DataW H} {ps : List MemPlace}

theorem wf_i64 {n : Int} (h : (Lit.int .i64 n).wf = true) : -9223372036854775808 ≤ n ∧ n < 9223372036854775808 := by
  simp [Lit.wf, IntKind.min, IntKind.max, IntKind.signed, IntKind.bits] at h
  omega

theorem open_two (he : P.underlying e = some (.int .i64)) (hce : P.cellsOf e = 1) (ht : P.underlying t = some (.array 2 e)) (hct : P.cellsOf t = 2) (hval : Value.okWide P W r b0 t v) (hd : DataW.Trod enc P W base spare held t v d ps) :
    ∃ p q : Int, (-9223372036854775808 ≤ p ∧ p < 9223372036854775808) ∧ (-9223372036854775808 ≤ q ∧ q < 9223372036854775808) ∧ v = .agg #[.int .i64 p, .int .i64 q] := by
  obtain ⟨fuel, hd⟩ := hd
  simp only [Value.okWide, ht] at hval
  obtain ⟨cs, rfl, _, _⟩ := hval
  obtain ⟨ys, m, _, _, hlen, hyl, hget⟩ := DataW.trod_array ht hd
  rw [hct] at hlen
  have key : ∀ i, i < 2 → ∃ z : Int, (Lit.int .i64 z).wf = true ∧ (Value.agg cs).cells.toList[i]? = some (.int .i64 z) := by
    intro i hi
    have h1 := hget i hi
    rw [hce, Nat.mul_one] at h1
    have hy : ys[i]? = some (ys[i]'(by omega)) := List.getElem?_eq_getElem _
    rw [hy] at h1
    have hc : (Value.agg cs).cells.toList[i]? = some ((Value.agg cs).cells.toList[i]'(by omega)) := List.getElem?_eq_getElem _
    have hcs : ((Value.agg cs).cells.toList.drop i).take 1 = [(Value.agg cs).cells.toList[i]'(by omega)] := by
      rw [List.take_one, List.head?_drop, hc]; rfl
    rw [hcs] at h1
    obtain ⟨z, hz1, _, hz3⟩ := DataW.trod_int he h1
    simp only [List.cons.injEq] at hz1
    exact ⟨z, hz3, by rw [hc, hz1.1]⟩
  obtain ⟨p, p1, p2⟩ := key 0 (by decide)
  obtain ⟨q, q1, q2⟩ := key 1 (by decide)
  refine ⟨p, q, wf_i64 p1, wf_i64 q1, ?_⟩
  have e : (Value.agg cs).cells.toList = cs.toList := by simp [Value.cells]
  rw [e] at p2 q2 hlen
  congr 1
  apply Array.ext'
  apply List.ext_getElem?
  intro i
  match i with
  | 0 => exact p2
  | 1 => exact q2
  | i + 2 => rw [List.getElem?_eq_none (by omega)]; simp

theorem relTwo {cx : Cx} {β : Bm} {p q : Int} (h1 : -9223372036854775808 ≤ p ∧ p < 9223372036854775808) (h2 : -9223372036854775808 ≤ q ∧ q < 9223372036854775808) : RelV cx β (.agg [.one (.int p), .one (.int q)]) (.agg #[.int .i64 p, .int .i64 q]) :=
  ⟨[.int .i64 p, .int .i64 q], rfl, _, _, rfl, ⟨rfl, h1.1, h1.2⟩, _, _, rfl, ⟨rfl, h2.1, h2.2⟩, rfl⟩
end

theorem u63 : Try.prog.underlying 63 = some (.array 2 3) := by kernel_rfl
theorem c63 : Try.prog.cellsOf 63 = 2 := by kernel_rfl
theorem c3 : Try.prog.cellsOf 3 = 1 := by kernel_rfl

end Go.Proofs.Ytgebgjhjegadpaa

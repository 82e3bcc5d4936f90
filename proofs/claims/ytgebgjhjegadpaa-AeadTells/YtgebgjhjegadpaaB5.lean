/-
  Part 5 of what the last text stands on: The laws AeadBack and AeadTells: what their functions come to.
-/
import Derived.Test.YtgebgjhjegadpaaB4

set_option linter.unusedSimpArgs false
set_option linter.unusedVariables false

namespace Go.Proofs.Ytgebgjhjegadpaa
open Go Go.ChangeShapes Go.WideShapes

set_option maxRecDepth 100000 in
theorem r15 (o : OpsC) (key nonce xs bs : List Nat) : runB Try.prog (envC o) [] .nat 7 Try.f15 [.agg [.ints .u8 32 key, .ints .u8 12 nonce], .s (.xsl (.ints .u8 xs)), .s (.xsl (.ints .u8 bs))] [] =
(nd [decide (xs.length < 9223372036854775808), decide (min xs.length 3000 < 9223372036854775808), decide (min xs.length 3000 ≤ xs.length), decide (bs.length < 9223372036854775808), decide (min bs.length 3000 < 9223372036854775808), decide (min bs.length 3000 ≤ bs.length), decide ((List.take (min xs.length 3000) xs).length < 9223372036854775808), o.okL [List.take (min bs.length 3000) bs]]
 (cond (o.lg (List.take (min xs.length 3000) xs) [List.take (min bs.length 3000) bs])
 (nd [decide ((List.take (min bs.length 3000) bs).length < 9223372036854775808), decide ((List.take (min bs.length 3000) bs).length / 2 ≤ (List.take (min bs.length 3000) bs).length), decide ((List.take (min bs.length 3000) bs).length < 9223372036854775808), decide ((List.take (min bs.length 3000) bs).length / 2 ≤ (List.take (min bs.length 3000) bs).length), o.okL [List.take ((List.take (min bs.length 3000) bs).length / 2) (List.take (min bs.length 3000) bs), [], List.drop ((List.take (min bs.length 3000) bs).length / 2) (List.take (min bs.length 3000) bs)]]
 (cond (o.lo [] [List.take ((List.take (min bs.length 3000) bs).length / 2) (List.take (min bs.length 3000) bs), [], List.drop ((List.take (min bs.length 3000) bs).length / 2) (List.take (min bs.length 3000) bs)])
 (some (AV.s (SV.bool false), []))
 (some (AV.s (SV.bool false), []))))
 (nd [decide ((List.take (min bs.length 3000) bs).length < 9223372036854775808), decide ((List.take (min bs.length 3000) bs).length / 2 ≤ (List.take (min bs.length 3000) bs).length), decide ((List.take (min bs.length 3000) bs).length < 9223372036854775808), decide ((List.take (min bs.length 3000) bs).length / 2 ≤ (List.take (min bs.length 3000) bs).length), decide ((List.take (min xs.length 3000) xs).length + 16 = (List.take (min xs.length 3000) xs).length + 16), decide ((o.sl key nonce (List.take (min xs.length 3000) xs) (o.cat [List.take (min bs.length 3000) bs] 1)).length < 9223372036854775808), o.okL [List.take ((List.take (min bs.length 3000) bs).length / 2) (List.take (min bs.length 3000) bs), [], List.drop ((List.take (min bs.length 3000) bs).length / 2) (List.take (min bs.length 3000) bs)]]
 (cond (o.lo (o.sl key nonce (List.take (min xs.length 3000) xs) (o.cat [List.take (min bs.length 3000) bs] 1)) [List.take ((List.take (min bs.length 3000) bs).length / 2) (List.take (min bs.length 3000) bs), [], List.drop ((List.take (min bs.length 3000) bs).length / 2) (List.take (min bs.length 3000) bs)])
 (some (AV.s (SV.bool false), []))
 (cond (decide ((o.sl key nonce (List.take (min xs.length 3000) xs) (o.cat [List.take (min bs.length 3000) bs] 1)).length < 16))
 (some (AV.s (SV.bool false), []))
 (cond (o.eq (o.mac key nonce (o.op (o.sl key nonce (List.take (min xs.length 3000) xs) (o.cat [List.take (min bs.length 3000) bs] 1))) (o.cat [List.take ((List.take (min bs.length 3000) bs).length / 2) (List.take (min bs.length 3000) bs), [], List.drop ((List.take (min bs.length 3000) bs).length / 2) (List.take (min bs.length 3000) bs)] 3)) (o.ls (o.sl key nonce (List.take (min xs.length 3000) xs) (o.cat [List.take (min bs.length 3000) bs] 1))))
 (nd [decide ((o.sl key nonce (List.take (min xs.length 3000) xs) (o.cat [List.take (min bs.length 3000) bs] 1)).length - 16 = (o.sl key nonce (List.take (min xs.length 3000) xs) (o.cat [List.take (min bs.length 3000) bs] 1)).length - 16)]
 (cond (!decide (o.mx key nonce (o.op (o.sl key nonce (List.take (min xs.length 3000) xs) (o.cat [List.take (min bs.length 3000) bs] 1))) = List.take (min xs.length 3000) xs))
 (some (AV.s (SV.bool false), []))
 (nd [decide ((List.take (min xs.length 3000) xs).length + 16 < 9223372036854775808), decide ((List.take (min xs.length 3000) xs).length < 9223372036854775808), decide ((List.take (min xs.length 3000) xs).length + 16 < 9223372036854775808)]
 (cond (!decide ((List.take (min xs.length 3000) xs).length + 16 = (List.take (min xs.length 3000) xs).length + 16))
 (some (AV.s (SV.bool false), []))
 (nd [decide ((List.take (min xs.length 3000) xs).length + 16 < 9223372036854775808), decide ((List.take (min ((List.take (min xs.length 3000) xs).length + 16) 15) (o.sl key nonce (List.take (min xs.length 3000) xs) (o.cat [List.take (min bs.length 3000) bs] 1))).length < 9223372036854775808), o.okL [List.take (min bs.length 3000) bs]]
 (cond (o.lo (List.take (min ((List.take (min xs.length 3000) xs).length + 16) 15) (o.sl key nonce (List.take (min xs.length 3000) xs) (o.cat [List.take (min bs.length 3000) bs] 1))) [List.take (min bs.length 3000) bs])
 (some (AV.s (SV.bool (decide (2 = 111))), []))
 (cond (decide ((List.take (min ((List.take (min xs.length 3000) xs).length + 16) 15) (o.sl key nonce (List.take (min xs.length 3000) xs) (o.cat [List.take (min bs.length 3000) bs] 1))).length < 16))
 (some (AV.s (SV.bool (decide (111 = 111))), []))
 (cond (o.eq (o.mac key nonce (o.op (List.take (min ((List.take (min xs.length 3000) xs).length + 16) 15) (o.sl key nonce (List.take (min xs.length 3000) xs) (o.cat [List.take (min bs.length 3000) bs] 1)))) (o.cat [List.take (min bs.length 3000) bs] 1)) (o.ls (List.take (min ((List.take (min xs.length 3000) xs).length + 16) 15) (o.sl key nonce (List.take (min xs.length 3000) xs) (o.cat [List.take (min bs.length 3000) bs] 1)))))
 (some (AV.s (SV.bool (decide (0 = 111))), []))
 (some (AV.s (SV.bool (decide (100 = 111))), []))))))))))
 (some (AV.s (SV.bool false), [])))))))) := by kernel_rfl

set_option maxRecDepth 100000 in
theorem r16 (o : OpsC) (key nonce xs bs : List Nat) : runB Try.prog (envC o) [] .nat 7 Try.f16 [.agg [.ints .u8 32 key, .ints .u8 12 nonce], .s (.xsl (.ints .u8 xs)), .agg [.ints .u8 16 bs]] [] =
(nd [decide (xs.length < 9223372036854775808), decide (min xs.length 1000 < 9223372036854775808), decide (min xs.length 1000 ≤ xs.length), decide ((List.take (min xs.length 1000) xs).length < 9223372036854775808), o.okL []]
 (cond (o.lg (List.take (min xs.length 1000) xs) [])
 (some (AV.s (SV.bool false), []))
 (nd [decide ((List.take (min xs.length 1000) xs).length + 16 < 9223372036854775808), decide ((List.take (min xs.length 1000) xs).length + 16 - 16 ≤ (List.take (min xs.length 1000) xs).length + 16), decide ((List.take (min xs.length 1000) xs).length + 16 - 16 + ((List.take (min xs.length 1000) xs).length + 16 - ((List.take (min xs.length 1000) xs).length + 16 - 16)) = (List.take (min xs.length 1000) xs).length + 16), decide ((List.take (min xs.length 1000) xs).length + 16 - 16 ≤ (List.take (min xs.length 1000) xs).length + 16), decide ((List.take (min xs.length 1000) xs).length + 16 - 16 ≤ (List.take (min xs.length 1000) xs).length + 16), decide (0 + ((List.take (min xs.length 1000) xs).length + 16 - 16) ≤ 4398046511104), decide (0 + ((List.take (min xs.length 1000) xs).length + 16 - 16) = 0 + ((List.take (min xs.length 1000) xs).length + 16 - 16)), decide (0 + ((List.take (min xs.length 1000) xs).length + 16 - 16) + 16 ≤ 4398046511104), decide (0 + ((List.take (min xs.length 1000) xs).length + 16 - 16) + 16 = 0 + ((List.take (min xs.length 1000) xs).length + 16 - 16) + 16), decide ((List.take ((List.take (min xs.length 1000) xs).length + 16 - 16) (o.sl key nonce (List.take (min xs.length 1000) xs) (o.cat [] 0)) ++ bs).length < 9223372036854775808), o.okL []]
 (cond (o.lo (List.take ((List.take (min xs.length 1000) xs).length + 16 - 16) (o.sl key nonce (List.take (min xs.length 1000) xs) (o.cat [] 0)) ++ bs) [])
 (cond (decide (List.drop ((List.take (min xs.length 1000) xs).length + 16 - 16) (o.sl key nonce (List.take (min xs.length 1000) xs) (o.cat [] 0)) = bs))
 (cond (!decide (List.drop ((List.take (min xs.length 1000) xs).length + 16 - 16) (o.sl key nonce (List.take (min xs.length 1000) xs) (o.cat [] 0)) = bs))
 (some (AV.s (SV.bool false), []))
 (some (AV.s (SV.bool false), [])))
 (cond (!decide (List.drop ((List.take (min xs.length 1000) xs).length + 16 - 16) (o.sl key nonce (List.take (min xs.length 1000) xs) (o.cat [] 0)) = bs))
 (some (AV.s (SV.bool false), []))
 (some (AV.s (SV.bool false), []))))
 (cond (decide ((List.take ((List.take (min xs.length 1000) xs).length + 16 - 16) (o.sl key nonce (List.take (min xs.length 1000) xs) (o.cat [] 0)) ++ bs).length < 16))
 (cond (decide (List.drop ((List.take (min xs.length 1000) xs).length + 16 - 16) (o.sl key nonce (List.take (min xs.length 1000) xs) (o.cat [] 0)) = bs))
 (cond (!decide (List.drop ((List.take (min xs.length 1000) xs).length + 16 - 16) (o.sl key nonce (List.take (min xs.length 1000) xs) (o.cat [] 0)) = bs))
 (some (AV.s (SV.bool false), []))
 (some (AV.s (SV.bool false), [])))
 (cond (!decide (List.drop ((List.take (min xs.length 1000) xs).length + 16 - 16) (o.sl key nonce (List.take (min xs.length 1000) xs) (o.cat [] 0)) = bs))
 (some (AV.s (SV.bool false), []))
 (some (AV.s (SV.bool false), []))))
 (cond (o.eq (o.mac key nonce (o.op (List.take ((List.take (min xs.length 1000) xs).length + 16 - 16) (o.sl key nonce (List.take (min xs.length 1000) xs) (o.cat [] 0)) ++ bs)) (o.cat [] 0)) (o.ls (List.take ((List.take (min xs.length 1000) xs).length + 16 - 16) (o.sl key nonce (List.take (min xs.length 1000) xs) (o.cat [] 0)) ++ bs)))
 (cond (decide (List.drop ((List.take (min xs.length 1000) xs).length + 16 - 16) (o.sl key nonce (List.take (min xs.length 1000) xs) (o.cat [] 0)) = bs))
 (nd [decide ((List.take ((List.take (min xs.length 1000) xs).length + 16 - 16) (o.sl key nonce (List.take (min xs.length 1000) xs) (o.cat [] 0)) ++ bs).length - 16 = (List.take ((List.take (min xs.length 1000) xs).length + 16 - 16) (o.sl key nonce (List.take (min xs.length 1000) xs) (o.cat [] 0)) ++ bs).length - 16)]
 (cond (decide (o.mx key nonce (o.op (List.take ((List.take (min xs.length 1000) xs).length + 16 - 16) (o.sl key nonce (List.take (min xs.length 1000) xs) (o.cat [] 0)) ++ bs)) = List.take (min xs.length 1000) xs))
 (some (AV.s (SV.bool true), []))
 (cond (!decide (List.drop ((List.take (min xs.length 1000) xs).length + 16 - 16) (o.sl key nonce (List.take (min xs.length 1000) xs) (o.cat [] 0)) = bs))
 (some (AV.s (SV.bool false), []))
 (some (AV.s (SV.bool false), [])))))
 (cond (!decide (List.drop ((List.take (min xs.length 1000) xs).length + 16 - 16) (o.sl key nonce (List.take (min xs.length 1000) xs) (o.cat [] 0)) = bs))
 (some (AV.s (SV.bool false), []))
 (some (AV.s (SV.bool false), []))))
 (cond (decide (List.drop ((List.take (min xs.length 1000) xs).length + 16 - 16) (o.sl key nonce (List.take (min xs.length 1000) xs) (o.cat [] 0)) = bs))
 (cond (!decide (List.drop ((List.take (min xs.length 1000) xs).length + 16 - 16) (o.sl key nonce (List.take (min xs.length 1000) xs) (o.cat [] 0)) = bs))
 (some (AV.s (SV.bool (decide (0 = 0))), []))
 (some (AV.s (SV.bool false), [])))
 (cond (!decide (List.drop ((List.take (min xs.length 1000) xs).length + 16 - 16) (o.sl key nonce (List.take (min xs.length 1000) xs) (o.cat [] 0)) = bs))
 (some (AV.s (SV.bool (decide (0 = 0))), []))
 (some (AV.s (SV.bool false), [])))))))))) := by kernel_rfl

theorem ctr15 {key nonce xs bs : List Nat} (h1 : xs.length < 9223372036854775808) (h2 : bs.length < 9223372036854775808) :
    Ctr Try.prog 15 [.agg [.ints .u8 32 key, .ints .u8 12 nonce], .s (.xsl (.ints .u8 xs)), .s (.xsl (.ints .u8 bs))] [] (.s (.bool true)) [] := by
  refine ctrB (fs := envC opsC) (xs := []) (m := .nat) (fuel := 7) envC_ok fn15 ?_
  have hX := take_min xs 3000
  have hB := take_min bs 3000
  rw [r15, opsC_sl, opsC_mx, opsC_mac, opsC_okL, opsC_cat, opsC_op, opsC_ls]
  generalize hx : List.take (min xs.length 3000) xs = X at *
  generalize hb : List.take (min bs.length 3000) bs = B at *
  rw [catN_1, cat3, opT_slT, lsT_slT, mx_mx, slT_len, List.append_nil, List.take_append_drop]
  have hl3 : lenN [List.take (B.length / 2) B, [], List.drop (B.length / 2) B] 3 = B.length := by
    rw [len3, List.length_take, List.length_drop, List.length_nil]
    omega
  have hl1 := lenN_1 B
  have k1 : okLens [B] = true := okL_1 (by omega)
  have k3 : okLens [List.take (B.length / 2) B, [], List.drop (B.length / 2) B] = true := okL_of fun p hp => by
    simp only [List.mem_cons, List.not_mem_nil, or_false] at hp
    rcases hp with rfl | rfl | rfl
    · rw [List.length_take]; omega
    · decide
    · rw [List.length_drop]; omega
  have g1 : opsC.lg X [B] = false := lg_small (by omega) (by show lenN [B] 1 ≤ _; omega)
  have g2 : opsC.lo (slT key nonce X B) [List.take (B.length / 2) B, [], List.drop (B.length / 2) B] = false := lo_small (by rw [slT_len]; omega) (by show lenN _ 3 ≤ _; omega)
  have ht : (List.take (min (X.length + 16) 15) (slT key nonce X B)).length = 15 := by
    rw [List.length_take, slT_len]
    omega
  have g3 : opsC.lo (List.take (min (X.length + 16) 15) (slT key nonce X B)) [B] = false := lo_small (by omega) (by show lenN [B] 1 ≤ _; omega)
  rw [ht]
  refine nd_of ?_ (cond_f g1 (nd_of ?_ (cond_f g2 (cond_f (decide_eq_false (by omega)) (cond_t (eq_true' rfl) (nd_of ?_ (cond_f ?_ (nd_of ?_ (cond_f ?_ (nd_of ?_ (cond_f g3 (cond_t (decide_eq_true (by decide)) ?_))))))))))))
  · simp only [List.mem_cons, List.not_mem_nil, or_false, forall_eq_or_imp, forall_eq, decide_eq_true_eq]
    exact ⟨h1, by omega, by omega, h2, by omega, by omega, by omega, k1⟩
  · simp only [List.mem_cons, List.not_mem_nil, or_false, forall_eq_or_imp, forall_eq, decide_eq_true_eq]
    exact ⟨by omega, by omega, by omega, by omega, trivial, by omega, k3⟩
  · simp only [List.mem_cons, List.not_mem_nil, or_false, forall_eq, decide_eq_true_eq]
  · rw [decide_eq_true rfl]; rfl
  · simp only [List.mem_cons, List.not_mem_nil, or_false, forall_eq_or_imp, forall_eq, decide_eq_true_eq]
    exact ⟨by omega, by omega, by omega⟩
  · rw [decide_eq_true rfl]; rfl
  · simp only [List.mem_cons, List.not_mem_nil, or_false, forall_eq_or_imp, forall_eq, decide_eq_true_eq]
    exact ⟨by omega, by omega, k1⟩
  · rfl

theorem ctr16 {key nonce xs bs : List Nat} (h1 : xs.length < 9223372036854775808) (hl : bs.length = 16) :
    Ctr Try.prog 16 [.agg [.ints .u8 32 key, .ints .u8 12 nonce], .s (.xsl (.ints .u8 xs)), .agg [.ints .u8 16 bs]] [] (.s (.bool true)) [] := by
  refine ctrB (fs := envC opsC) (xs := []) (m := .nat) (fuel := 7) envC_ok fn16 ?_
  have hX := take_min xs 1000
  rw [r16, opsC_sl, opsC_mx, opsC_mac, opsC_okL, opsC_cat, opsC_op, opsC_ls]
  generalize hx : List.take (min xs.length 1000) xs = X at *
  have e0 : catN [] 0 = [] := rfl
  rw [e0]
  have et : List.take (X.length + 16 - 16) (slT key nonce X []) = mxT key nonce X := by
    have := opT_slT key nonce X []
    unfold opT at this
    rwa [slT_len] at this
  have ed : List.drop (X.length + 16 - 16) (slT key nonce X []) = macT key nonce (mxT key nonce X) [] := by
    have := lsT_slT key nonce X []
    unfold lsT at this
    rwa [slT_len] at this
  have hml := mxT_len key nonce X
  have hL : (mxT key nonce X ++ bs).length = X.length + 16 := by rw [List.length_append, hml, hl]
  have eo : opT (mxT key nonce X ++ bs) = mxT key nonce X := by
    unfold opT
    rw [hL, Nat.add_sub_cancel, ← hml, List.take_left' rfl]
  have es : lsT (mxT key nonce X ++ bs) = bs := by
    unfold lsT
    rw [hL, Nat.add_sub_cancel, ← hml, List.drop_left' rfl]
  rw [et, ed, eo, es, mx_mx, hL]
  have k0 : okLens [] = true := rfl
  have g1 : opsC.lg X [] = false := lg_small (by omega) (by decide)
  have g2 : opsC.lo (mxT key nonce X ++ bs) [] = false := lo_small (by omega) (by decide)
  refine nd_of ?_ (cond_f g1 (nd_of ?_ (cond_f g2 (cond_f (decide_eq_false (by omega)) ?_))))
  · simp only [List.mem_cons, List.not_mem_nil, or_false, forall_eq_or_imp, forall_eq, decide_eq_true_eq]
    exact ⟨h1, by omega, by omega, by omega, k0⟩
  · simp only [List.mem_cons, List.not_mem_nil, or_false, forall_eq_or_imp, forall_eq, decide_eq_true_eq]
    exact ⟨by omega, by omega, by omega, by omega, by omega, by omega, trivial, by omega, trivial, by omega, k0⟩
  · by_cases he : macT key nonce (mxT key nonce X) [] = bs
    · refine cond_t (eq_true' he) (cond_t (decide_eq_true he) (nd_of ?_ (cond_t (decide_eq_true rfl) rfl)))
      simp only [List.mem_cons, List.not_mem_nil, or_false, forall_eq, decide_eq_true_eq]
    · have hf : opsC.eq (macT key nonce (mxT key nonce X) []) bs = false := by
        rw [opsC_eq]
        exact decide_eq_false he
      refine cond_f hf (cond_f (decide_eq_false he) (cond_t ?_ rfl))
      rw [decide_eq_false he]
      rfl

/-! Arguments. -/
section
variable {H : Type} {enc : TypeId × Value → H} {P : Program} {W : World} {r : Reach} {b0 base : Nat} {spare : Nat → Bool} {held : Bool} {t : TypeId} {v : Value} {d : DataW H} {ps : List MemPlace}

/-- A key with its nonce, by value. -/
theorem open_boxV {f0 f1 : Field} {e : TypeId} (ht : P.underlying t = some (.struct #[f0, f1])) (he : P.underlying e = some (.int .u8)) (hce : P.cellsOf e = 1)
    (h0 : P.underlying f0.type = some (.array 32 e)) (c0 : P.cellsOf f0.type = 32) (h1 : P.underlying f1.type = some (.array 12 e)) (c1 : P.cellsOf f1.type = 12) (o0 : f0.offset = 0) (o1 : f1.offset = 32) (ct : P.cellsOf t = 44)
    (hval : Value.okWide P W r b0 t v) (hd : DataW.Trod enc P W base spare held t v d ps) :
    ∃ xs ys : List Nat, xs.length = 32 ∧ (∀ x ∈ xs, x < 256) ∧ ys.length = 12 ∧ (∀ y ∈ ys, y < 256) ∧ v = .agg (xs.map (fun x : Nat => Value.int .u8 x) ++ ys.map (fun x : Nat => Value.int .u8 x)).toArray := by
  obtain ⟨fuel, hd⟩ := hd
  simp only [Value.okWide, ht] at hval
  obtain ⟨cs, rfl, _, _⟩ := hval
  obtain ⟨y0, y1, n, _, hl, g0, g1⟩ := trod_struct2 ht hd
  rw [o0, c0] at g0
  rw [o1, c1] at g1
  obtain ⟨xs, x1, x2, x3⟩ := open_arrC (k := .u8) rfl he hce h0 c0 g0
  obtain ⟨ys, z1, z2, z3⟩ := open_arrC (k := .u8) rfl he hce h1 c1 g1
  refine ⟨xs, ys, x1, x2, z1, z2, ?_⟩
  have hc : (Value.agg cs).cells.toList.length = 44 := by rw [hl, ct]
  congr 1
  apply Array.ext'
  have e : (Value.agg cs).cells.toList = cs.toList := by simp [Value.cells]
  rw [e] at x3 z3 hc
  rw [← x3, ← z3]
  simp only [List.drop_zero]
  rw [List.take_of_length_le (l := List.drop 32 cs.toList) (by rw [List.length_drop]; omega), List.take_append_drop]

theorem relBox {cx : Cx} {β : Bm} {xs ys : List Nat} (h1 : xs.length = 32) (h2 : ∀ x ∈ xs, x < 256) (h3 : ys.length = 12) (h4 : ∀ y ∈ ys, y < 256) :
    RelV cx β (.agg [.ints .u8 32 xs, .ints .u8 12 ys]) (.agg (xs.map (fun x : Nat => Value.int .u8 x) ++ ys.map (fun x : Nat => Value.int .u8 x)).toArray) :=
  ⟨_, rfl, h1, h2, _, rfl, h3, h4, [], by simp, rfl⟩
end

theorem u58 : Try.prog.underlying 58 = some (.struct #[{ name := "Key", type := 23, offset := 0, embedded := false, tag := "", pkgPath := "", byteOffset := 0 }, { name := "Nonce", type := 25, offset := 32, embedded := false, tag := "", pkgPath := "", byteOffset := 32 }]) := by kernel_rfl
theorem c58 : Try.prog.cellsOf 58 = 44 := by kernel_rfl

end Go.Proofs.Ytgebgjhjegadpaa

/-
  Part 5 of what the last text stands on: The document's short sum of what is sealed is the code's.
-/
import Derived.Test.YtgebgjhjegadpaaB4
import Derived.Test.YtgebgjhjegadpaaRows
import Derived.Deep.Matrix

set_option linter.unusedSimpArgs false
set_option linter.unusedVariables false

namespace Go.Proofs.Ytgebgjhjegadpaa
open Go

def onceR (b : List Nat) : List Nat := upto (fun i => b.getD i 0) 32 0
def txtR (o : OpsT) (s b : List Nat) : List Nat := o.fil b ++ o.fil s ++ cnt8 b.length ++ cnt8 s.length

set_option maxRecDepth 100000 in
theorem r42 (o : OpsT) (key nonce s b : List Nat) : runB Try.prog [(21, Y21 o.toOpsR), (26, Y26 o), (49, Y49 o), (50, F50)] [] .nat 40 Try.f42 [.agg [.ints .u8 32 key], .agg [.ints .u8 12 nonce], .s (.str s), .s (.str b)] [] =
(nd [decide (b.length < 4611686018427387904), decide (s.length < 4611686018427387904), decide ((o.fil b).length + (o.fil s).length < 9223372036854775808), decide (b.length < 9223372036854775808), decide (b.length < 4294967296), decide ((o.fil b ++ o.fil s).length + (cnt8 b.length).length < 9223372036854775808), decide (s.length < 9223372036854775808), decide (s.length < 4294967296), decide ((o.fil b ++ o.fil s ++ cnt8 b.length).length + (cnt8 s.length).length < 9223372036854775808), o.okK (onceR (o.bR key nonce 0)), o.aB (txtR o s b), decide ((txtR o s b).length < 4611686018427387904)]
 (some (AV.s (SV.str (upto (fun i => (o.tR (onceR (o.bR key nonce 0)) (txtR o s b)).getD i 0) 16 0)), []))) := by kernel_rfl

theorem upto_get (f : Nat → Nat) : ∀ (n i j : Nat), (upto f n i).getD j 0 = if j < n then f (i + j) else 0
  | 0, i, j => by rw [if_neg (by omega)]; rfl
  | n + 1, i, 0 => by rw [if_pos (by omega)]; rfl
  | n + 1, i, j + 1 => by
    have := upto_get f n (i + 1) j
    rw [upto, List.getD_cons_succ, this, show i + 1 + j = i + (j + 1) by omega]
    by_cases h : j < n
    · rw [if_pos h, if_pos (by omega)]
    · rw [if_neg h, if_neg (by omega)]

theorem upto_take {l : List Nat} {n : Nat} (h : n ≤ l.length) : upto (fun i => l.getD i 0) n 0 = l.take n := by
  refine (list_getD (by rw [upto_len, List.length_take]; omega)).1 fun i hi => ?_
  rw [upto_len] at hi
  rw [upto_get, if_pos hi, Nat.zero_add, List.getD, List.getD, List.getElem?_take_of_lt hi]

def b8 (l : List Nat) : Bool := allB 256 l

theorem b8_B8 {l : List Nat} (h : b8 l = true) : B8 l := fun x hx => of_decide_eq_true (List.all_eq_true.1 h x hx)

def F42 : FSem := ⟨false, fun args hin => match args, hin with
  | [.agg [.ints .u8 32 key], .agg [.ints .u8 12 nonce], .s (.str s), .s (.str b)], [] =>
    some (Tr.needs [b8 key, b8 nonce, b8 s, b8 b, decide (s.length < 4294967296), decide (b.length < 4294967296)] (.leaf (.s (.str (macT key nonce s b)), [])))
  | _, _ => none⟩

theorem fil_len (s : List Nat) : (fil s).length = s.length + filN s.length := by rw [fil, List.length_append, List.length_replicate]
theorem filN_lt (n : Nat) : filN n < 16 := Nat.mod_lt _ (by decide)

theorem cat_macP (s b : List Nat) : catN (macP s b) (macP s b).length = fil b ++ fil s ++ cnt8 b.length ++ cnt8 s.length := by
  show catN (macP s b) 6 = _
  simp [catN, macP, fil, List.append_assoc]

theorem b8_app {a b : List Nat} (h : b8 a = true) (k : b8 b = true) : b8 (a ++ b) = true := by
  refine allB_mem fun x hx => ?_
  rcases List.mem_append.1 hx with h1 | h1
  · exact of_decide_eq_true (List.all_eq_true.1 h x h1)
  · exact of_decide_eq_true (List.all_eq_true.1 k x h1)
theorem b8_fil {s : List Nat} (h : b8 s = true) : b8 (fil s) = true := b8_app h (allB_mem fun x hx => by
  rw [List.eq_of_mem_replicate hx]
  decide)
theorem b8_cnt (n : Nat) : b8 (cnt8 n) = true := by
  refine allB_mem fun x hx => ?_
  simp only [cnt8, List.mem_cons, List.not_mem_nil, or_false] at hx
  rcases hx with rfl | rfl | rfl | rfl | rfl | rfl | rfl | rfl <;> first | exact Nat.mod_lt _ (by decide) | decide

theorem ok42 : FOk Try.prog 42 F42 := by
  refine fokB (fs := [(21, Y21 opsT.toOpsR), (26, Y26 opsT), (49, Y49 opsT), (50, F50)]) (xs := []) (m := .nat) (fuel := 40) (.cons (by rw [opsT_opsR]; exact yy21) (.cons yy26 (.cons yy49 (.cons ok50 .nil)))) fn42 ?_
  intro args hin t r h hg
  unfold F42 at h
  simp only at h
  split at h
  · rename_i key nonce s b
    simp only [Option.some.injEq] at h
    subst h
    obtain ⟨hc, hgt⟩ := Tr.needs_get hg
    cases hgt
    simp only [List.mem_cons, List.not_mem_nil, or_false, forall_eq_or_imp, forall_eq, decide_eq_true_eq] at hc
    obtain ⟨k1, k2, k3, k4, h1, h2⟩ := hc
    have e1 : opsT.bR key nonce 0 = blk key nonce 0 := by
      rw [opsT_opsR, opsR_bR]
      exact blk_eq (b8_B8 k1) (b8_B8 k2) (by decide)
    have e2 : onceR (blk key nonce 0) = List.take 32 (blk key nonce 0) := upto_take (by rw [blk_len]; decide)
    have e3 : txtR opsT s b = catN (macP s b) (macP s b).length := by
      unfold txtR
      rw [opsT_fil, cat_macP]
    have hok := once_ok key nonce
    have hol := once_len key nonce
    have hb : b8 (catN (macP s b) (macP s b).length) = true := by
      rw [cat_macP]
      exact b8_app (b8_app (b8_app (b8_fil k4) (b8_fil k3)) (b8_cnt _)) (b8_cnt _)
    have htag := tag_eq hol hok hb
    have hm : macT key nonce s b = tagR (List.take 32 (blk key nonce 0)) (catN (macP s b) (macP s b).length) := by
      rw [macT, tagC_eq, htag]
    have hlen : (catN (macP s b) (macP s b).length).length < 4611686018427387904 := by
      rw [cat_macP]
      simp only [List.length_append, fil_len]
      have a1 := filN_lt b.length
      have a2 := filN_lt s.length
      have a3 : (cnt8 b.length).length = 8 := rfl
      have a4 : (cnt8 s.length).length = 8 := rfl
      omega
    rw [r42, e1, e2, e3, opsT_tR, opsT_okK, opsT_aB, opsT_fil, ← hm, upto_take (by rw [macT_len]; decide)]
    have a1 := filN_lt b.length
    have a2 := filN_lt s.length
    have a3 : (cnt8 b.length).length = 8 := rfl
    have a4 : (cnt8 s.length).length = 8 := rfl
    refine nd_of ?_ ?_
    · simp only [List.mem_cons, List.not_mem_nil, or_false, forall_eq_or_imp, forall_eq, decide_eq_true_eq, List.length_append, fil_len, a3, a4]
      exact ⟨by omega, by omega, by omega, by omega, h2, by omega, by omega, h1, by omega, hok, hb, hlen⟩
    · rw [List.take_of_length_le (by rw [macT_len]; decide)]
  · cases h

end Go.Proofs.Ytgebgjhjegadpaa

namespace Go.Proofs.Ytgebgjhjegadpaa
open Go

theorem fn29 : Fn Try.prog 29 Try.f29 := ⟨mixed, Try.func29, by kernel_rfl, of_decide_eq_true (by kernel_rfl)⟩
theorem fn31 : Fn Try.prog 31 Try.f31 := ⟨mixed, Try.func31, by kernel_rfl, of_decide_eq_true (by kernel_rfl)⟩

structure OpsD where
  mxR : List Nat → List Nat → Nat → List Nat → List Nat
  mac : List Nat → List Nat → List Nat → List Nat → List Nat
  b8 : List Nat → Bool
def opsD : OpsD := ⟨mixR opsR, macT, b8⟩
theorem opsD_mxR : opsD.mxR = mixR opsR := by kernel_rfl
theorem opsD_mac : opsD.mac = macT := by kernel_rfl
theorem opsD_b8 : opsD.b8 = b8 := by kernel_rfl

def Y23 (o : OpsD) : FSem := ⟨false, fun args hin => match args, hin with
  | [.agg [.ints .u8 32 key], .agg [.ints .u8 12 nonce], .s (.nat .u64 num), .s (.str s)], [] =>
    some (.need (decide (s.length < 4611686018427387904)) (.br (decide (16777216 < s.length)) (.leaf (.tup [.s (.str []), .s (.nat .i64 2)], [])) (.leaf (.tup [.s (.str (o.mxR key nonce num s)), .s (.nat .i64 0)], []))))
  | _, _ => none⟩
theorem yy23 : FOk Try.prog 23 (Y23 opsD) := by
  have e : Y23 opsD = F23 := by kernel_rfl
  rw [e]
  exact ok23

def Y42 (o : OpsD) : FSem := ⟨false, fun args hin => match args, hin with
  | [.agg [.ints .u8 32 key], .agg [.ints .u8 12 nonce], .s (.str s), .s (.str b)], [] =>
    some (Tr.needs [o.b8 key, o.b8 nonce, o.b8 s, o.b8 b, decide (s.length < 4294967296), decide (b.length < 4294967296)] (.leaf (.s (.str (o.mac key nonce s b)), [])))
  | _, _ => none⟩
theorem yy42 : FOk Try.prog 42 (Y42 opsD) := by
  have e : Y42 opsD = F42 := by kernel_rfl
  rw [e]
  exact ok42

def envD (o : OpsD) : List (Nat × FSem) := [(23, Y23 o), (42, Y42 o)]
theorem envD_ok : EnvOk ⟨Try.prog, envD opsD, []⟩ := .cons yy23 (.cons yy42 .nil)

end Go.Proofs.Ytgebgjhjegadpaa

namespace Go.Proofs.Ytgebgjhjegadpaa
open Go

set_option maxRecDepth 100000 in
theorem r29 (o : OpsD) (key nonce s b : List Nat) : runB Try.prog (envD o) [] .nat 7 Try.f29 [.agg [.ints .u8 32 key], .agg [.ints .u8 12 nonce], .s (.str s), .s (.str b)] [] =
(nd [decide (s.length < 9223372036854775808)]
 (cond (decide (1048576 < s.length))
 (some (AV.tup [AV.s (SV.str []), AV.s (SV.nat IntKind.i64 2)], []))
 (nd [decide (b.length < 9223372036854775808)]
 (cond (decide (1048576 < b.length))
 (some (AV.tup [AV.s (SV.str []), AV.s (SV.nat IntKind.i64 2)], []))
 (nd [decide (s.length < 4611686018427387904)]
 (cond (decide (16777216 < s.length))
 (some (AV.tup [AV.s (SV.str []), AV.s (SV.nat IntKind.i64 2)], []))
 (nd [o.b8 key, o.b8 nonce, o.b8 (o.mxR key nonce 1 s), o.b8 b, decide ((o.mxR key nonce 1 s).length < 4294967296), decide (b.length < 4294967296), decide ((o.mxR key nonce 1 s).length + (o.mac key nonce (o.mxR key nonce 1 s) b).length < 9223372036854775808)]
 (some (AV.tup [AV.s (SV.str (o.mxR key nonce 1 s ++ o.mac key nonce (o.mxR key nonce 1 s) b)), AV.s (SV.nat IntKind.i64 0)], []))))))))) := by kernel_rfl

set_option maxRecDepth 100000 in
theorem r31 (o : OpsD) (key nonce s b : List Nat) : runB Try.prog (envD o) [] .nat 7 Try.f31 [.agg [.ints .u8 32 key], .agg [.ints .u8 12 nonce], .s (.str s), .s (.str b)] [] =
(nd [decide (s.length < 9223372036854775808), decide (16 ≤ s.length)]
 (cond (decide (1048576 < s.length - 16))
 (some (AV.tup [AV.s (SV.str []), AV.s (SV.nat IntKind.i64 2)], []))
 (nd [decide (b.length < 9223372036854775808)]
 (cond (decide (1048576 < b.length))
 (some (AV.tup [AV.s (SV.str []), AV.s (SV.nat IntKind.i64 2)], []))
 (nd [decide (s.length - 16 ≤ s.length), o.b8 key, o.b8 nonce, o.b8 (List.take (s.length - 16) s), o.b8 b, decide ((List.take (s.length - 16) s).length < 4294967296), decide (b.length < 4294967296), decide (s.length - 16 ≤ s.length)]
 (cond (!decide (o.mac key nonce (List.take (s.length - 16) s) b = List.drop (s.length - 16) s))
 (some (AV.tup [AV.s (SV.str []), AV.s (SV.nat IntKind.i64 100)], []))
 (nd [decide (s.length - 16 ≤ s.length), decide ((List.take (s.length - 16) s).length < 4611686018427387904)]
 (cond (decide (16777216 < (List.take (s.length - 16) s).length))
 (some (AV.tup [AV.s (SV.str []), AV.s (SV.nat IntKind.i64 2)], []))
 (some (AV.tup [AV.s (SV.str (o.mxR key nonce 1 (List.take (s.length - 16) s))), AV.s (SV.nat IntKind.i64 0)], [])))))))))) := by kernel_rfl

set_option maxRecDepth 100000 in
theorem r31i (o : OpsD) (key nonce s b : List Nat) : runB Try.prog (envD o) [] .int 7 Try.f31 [.agg [.ints .u8 32 key], .agg [.ints .u8 12 nonce], .s (.str s), .s (.str b)] [] =
(nd [decide (s.length < 9223372036854775808)]
 (cond (decide (Int.ofNat 1048576 < Int.ofNat s.length - Int.ofNat 16))
 (some (AV.tup [AV.s (SV.str []), AV.s (SV.nat IntKind.i64 2)], []))
 (nd [decide (b.length < 9223372036854775808)]
 (cond (decide (1048576 < b.length))
 (some (AV.tup [AV.s (SV.str []), AV.s (SV.nat IntKind.i64 2)], []))
 (cond (decide (Int.ofNat s.length - Int.ofNat 16 < Int.ofNat 0))
 (some (AV.tup [AV.s (SV.str []), AV.s (SV.nat IntKind.i64 111)], []))
 (nd [decide (Int.ofNat 0 ≤ Int.ofNat s.length - Int.ofNat 16), decide ((Int.ofNat s.length - Int.ofNat 16).toNat ≤ s.length), o.b8 key, o.b8 nonce, o.b8 (List.take (Int.ofNat s.length - Int.ofNat 16).toNat s), o.b8 b, decide ((List.take (Int.ofNat s.length - Int.ofNat 16).toNat s).length < 4294967296), decide (b.length < 4294967296), decide (Int.ofNat 0 ≤ Int.ofNat s.length - Int.ofNat 16), decide ((Int.ofNat s.length - Int.ofNat 16).toNat ≤ s.length)]
 (cond (!decide (o.mac key nonce (List.take (Int.ofNat s.length - Int.ofNat 16).toNat s) b = List.drop (Int.ofNat s.length - Int.ofNat 16).toNat s))
 (some (AV.tup [AV.s (SV.str []), AV.s (SV.nat IntKind.i64 100)], []))
 (nd [decide (Int.ofNat 0 ≤ Int.ofNat s.length - Int.ofNat 16), decide ((Int.ofNat s.length - Int.ofNat 16).toNat ≤ s.length), decide ((List.take (Int.ofNat s.length - Int.ofNat 16).toNat s).length < 4611686018427387904)]
 (cond (decide (16777216 < (List.take (Int.ofNat s.length - Int.ofNat 16).toNat s).length))
 (some (AV.tup [AV.s (SV.str []), AV.s (SV.nat IntKind.i64 2)], []))
 (some (AV.tup [AV.s (SV.str (o.mxR key nonce 1 (List.take (Int.ofNat s.length - Int.ofNat 16).toNat s))), AV.s (SV.nat IntKind.i64 0)], []))))))))))) := by kernel_rfl

theorem lt256_xor {a b : Nat} (h : a < 256) (k : b < 256) : a ^^^ b < 256 := Nat.xor_lt_two_pow (n := 8) h k

theorem b8_get {l : List Nat} (h : b8 l = true) (i : Nat) : l.getD i 0 < 256 := allB_get (by decide) h i
theorem b8_of {l : List Nat} (h : ∀ i, l.getD i 0 < 256) : b8 l = true := allB_mem fun x hx => by
  obtain ⟨i, hi, e⟩ := List.getElem_of_mem hx
  have := h i
  rw [List.getD, List.getElem?_eq_getElem hi, e] at this
  exact this

theorem b8_mx {key nonce s : List Nat} (h : b8 s = true) : b8 (mxT key nonce s) = true := b8_of fun i => by
  have hl := mxT_len key nonce s
  by_cases hi : i < s.length
  · have h1 : (mxT key nonce s).getD i 0 = mixAt key nonce 1 s i := mixC_get key nonce 1 s (l := s.length) (i := i) hi hi
    rw [h1, mixAt]
    refine lt256_xor (b8_get h i) ?_
    exact b8_get (allB_mem (blk_mem _ _ _)) _
  · rw [List.getD, List.getElem?_eq_none (by omega)]
    decide

theorem b8_take {s : List Nat} (h : b8 s = true) (n : Nat) : b8 (List.take n s) = true := allB_mem fun x hx => of_decide_eq_true (List.all_eq_true.1 h x (List.mem_of_mem_take hx))

theorem mxR_eq {key nonce s : List Nat} (hk : b8 key = true) (hn : b8 nonce = true) (hs : s.length < 4611686018427387904) : opsD.mxR key nonce 1 s = mxT key nonce s := by
  rw [opsD_mxR]
  exact mixR_eq (b8_B8 hk) (b8_B8 hn) (by decide) hs

def F29 : FSem := ⟨false, fun args hin => match args, hin with
  | [.agg [.ints .u8 32 key], .agg [.ints .u8 12 nonce], .s (.str s), .s (.str b)], [] =>
    some (Tr.needs [b8 key, b8 nonce, b8 s, b8 b, decide (s.length < 4611686018427387904), decide (b.length < 4611686018427387904)]
      (.br (decide (1048576 < s.length) || decide (1048576 < b.length)) (.leaf (.tup [.s (.str []), .s (.nat .i64 2)], [])) (.leaf (.tup [.s (.str (slT key nonce s b)), .s (.nat .i64 0)], []))))
  | _, _ => none⟩

theorem ok29 : FOk Try.prog 29 F29 := by
  refine fokB (fs := envD opsD) (xs := []) (m := .nat) (fuel := 7) envD_ok fn29 ?_
  intro args hin t r h hg
  unfold F29 at h
  simp only at h
  split at h
  · rename_i key nonce s b
    simp only [Option.some.injEq] at h
    subst h
    obtain ⟨hc, hgt⟩ := Tr.needs_get hg
    simp only [List.mem_cons, List.not_mem_nil, or_false, forall_eq_or_imp, forall_eq, decide_eq_true_eq] at hc
    obtain ⟨k1, k2, k3, k4, h1, h2⟩ := hc
    simp only [Tr.get] at hgt
    have hm := mxR_eq k1 k2 h1
    have hml := mxT_len key nonce s
    have hmb : b8 (mxT key nonce s) = true := b8_mx k3
    rw [r29, hm, opsD_mac, opsD_b8]
    refine nd_of (by simp only [List.mem_cons, List.not_mem_nil, or_false, forall_eq, decide_eq_true_eq]; omega) ?_
    by_cases hs : 1048576 < s.length
    · rw [decide_eq_true hs, Bool.true_or, cond_true] at hgt
      cases hgt
      exact cond_t (decide_eq_true hs) rfl
    · rw [decide_eq_false hs, Bool.false_or] at hgt
      refine cond_f (decide_eq_false hs) (nd_of (by simp only [List.mem_cons, List.not_mem_nil, or_false, forall_eq, decide_eq_true_eq]; omega) ?_)
      by_cases hb : 1048576 < b.length
      · rw [decide_eq_true hb, cond_true] at hgt
        cases hgt
        exact cond_t (decide_eq_true hb) rfl
      · rw [decide_eq_false hb, cond_false] at hgt
        cases hgt
        refine cond_f (decide_eq_false hb) (nd_of ?_ (cond_f (decide_eq_false (by omega)) (nd_of ?_ rfl)))
        · simp only [List.mem_cons, List.not_mem_nil, or_false, forall_eq, decide_eq_true_eq]; omega
        · simp only [List.mem_cons, List.not_mem_nil, or_false, forall_eq_or_imp, forall_eq, decide_eq_true_eq, macT_len, hml]
          exact ⟨k1, k2, hmb, k4, by omega, by omega, by omega⟩
  · cases h

def F31 : FSem := ⟨false, fun args hin => match args, hin with
  | [.agg [.ints .u8 32 key], .agg [.ints .u8 12 nonce], .s (.str s), .s (.str b)], [] =>
    some (Tr.needs [b8 key, b8 nonce, b8 s, b8 b, decide (s.length < 4611686018427387904), decide (b.length < 4611686018427387904)]
      (.br (decide (1048592 < s.length) || decide (1048576 < b.length)) (.leaf (.tup [.s (.str []), .s (.nat .i64 2)], []))
        (.br (decide (s.length < 16)) (.leaf (.tup [.s (.str []), .s (.nat .i64 111)], []))
          (.br (decide (macT key nonce (opT s) b = lsT s)) (.leaf (.tup [.s (.str (mxT key nonce (opT s))), .s (.nat .i64 0)], [])) (.leaf (.tup [.s (.str []), .s (.nat .i64 100)], []))))))
  | _, _ => none⟩

theorem ok31 : FOk Try.prog 31 F31 := by
  refine ⟨⟨_, _, fn31.at_, fn31.body, fn31.name⟩, ?_⟩
  intro args hin t v hout h hg
  unfold F31 at h
  simp only at h
  split at h
  · rename_i key nonce s b
    simp only [Option.some.injEq] at h
    subst h
    obtain ⟨hc, hgt⟩ := Tr.needs_get hg
    simp only [List.mem_cons, List.not_mem_nil, or_false, forall_eq_or_imp, forall_eq, decide_eq_true_eq] at hc
    obtain ⟨k1, k2, k3, k4, h1, h2⟩ := hc
    simp only [Tr.get] at hgt
    by_cases h16 : 16 ≤ s.length
    · refine ctrB (fs := envD opsD) (xs := []) (m := .nat) (fuel := 7) envD_ok fn31 ?_
      have hol := opT_len s
      have hm := mxR_eq (s := opT s) k1 k2 (by omega)
      rw [r31, show List.take (s.length - 16) s = opT s from rfl, show List.drop (s.length - 16) s = lsT s from rfl, hm, opsD_mac, opsD_b8, hol]
      have hob : b8 (opT s) = true := b8_take k3 _
      refine nd_of (by simp only [List.mem_cons, List.not_mem_nil, or_false, forall_eq_or_imp, forall_eq, decide_eq_true_eq]; omega) ?_
      by_cases hs : 1048592 < s.length
      · rw [decide_eq_true hs, Bool.true_or, cond_true] at hgt
        cases hgt
        exact cond_t (decide_eq_true (by omega)) rfl
      · rw [decide_eq_false hs, Bool.false_or] at hgt
        refine cond_f (decide_eq_false (by omega)) (nd_of (by simp only [List.mem_cons, List.not_mem_nil, or_false, forall_eq, decide_eq_true_eq]; omega) ?_)
        by_cases hb : 1048576 < b.length
        · rw [decide_eq_true hb, cond_true] at hgt
          cases hgt
          exact cond_t (decide_eq_true hb) rfl
        · rw [decide_eq_false hb, cond_false, decide_eq_false (show ¬ s.length < 16 by omega), cond_false] at hgt
          refine cond_f (decide_eq_false hb) (nd_of ?_ ?_)
          · simp only [List.mem_cons, List.not_mem_nil, or_false, forall_eq_or_imp, forall_eq, decide_eq_true_eq]
            exact ⟨by omega, k1, k2, hob, k4, by omega, by omega, by omega⟩
          · by_cases he : macT key nonce (opT s) b = lsT s
            · rw [decide_eq_true he, cond_true] at hgt
              cases hgt
              refine cond_f (by rw [decide_eq_true he]; rfl) (nd_of ?_ (cond_f (decide_eq_false (by omega)) rfl))
              simp only [List.mem_cons, List.not_mem_nil, or_false, forall_eq_or_imp, forall_eq, decide_eq_true_eq]; omega
            · rw [decide_eq_false he, cond_false] at hgt
              cases hgt
              exact cond_t (by rw [decide_eq_false he]; rfl) rfl
    · refine ctrB (fs := envD opsD) (xs := []) (m := .int) (fuel := 7) envD_ok fn31 ?_
      rw [r31i]
      rw [decide_eq_false (show ¬ 1048592 < s.length by omega), Bool.false_or] at hgt
      have f1 : ¬ (Int.ofNat 1048576 < Int.ofNat s.length - Int.ofNat 16) := by simp only [Int.ofNat_eq_natCast]; omega
      have f2 : Int.ofNat s.length - Int.ofNat 16 < Int.ofNat 0 := by simp only [Int.ofNat_eq_natCast]; omega
      refine nd_of (by simp only [List.mem_cons, List.not_mem_nil, or_false, forall_eq, decide_eq_true_eq]; omega) (cond_f (decide_eq_false f1) (nd_of (by simp only [List.mem_cons, List.not_mem_nil, or_false, forall_eq, decide_eq_true_eq]; omega) ?_))
      by_cases hb : 1048576 < b.length
      · rw [decide_eq_true hb, cond_true] at hgt
        cases hgt
        exact cond_t (decide_eq_true hb) rfl
      · rw [decide_eq_false hb, cond_false, decide_eq_true (show s.length < 16 by omega), cond_true] at hgt
        cases hgt
        exact cond_f (decide_eq_false hb) (cond_t (decide_eq_true f2) rfl)
  · cases h

end Go.Proofs.Ytgebgjhjegadpaa

namespace Go.Proofs.Ytgebgjhjegadpaa
open Go Go.ChangeShapes Go.WideShapes Go.ChangeAt Go.RowKit

theorem own : ownKnob Try.prog.godebug = none := by kernel_rfl
theorem laidOut : laidOutB Try.prog = true := by kernel_rfl
theorem u3 : Try.prog.underlying 3 = some (.int .i64) := by kernel_rfl
theorem u4 : Try.prog.underlying 4 = some .bool := by kernel_rfl
theorem u5 : Try.prog.underlying 5 = some (.int .u8) := by kernel_rfl
theorem u26 : Try.prog.underlying 26 = some (.int .u32) := by kernel_rfl
theorem u23 : Try.prog.underlying 23 = some (.array 32 5) := by kernel_rfl
theorem u25 : Try.prog.underlying 25 = some (.array 12 5) := by kernel_rfl
theorem u44 : Try.prog.underlying 44 = some (.array 16 5) := by kernel_rfl
theorem u33 : Try.prog.underlying 33 = some (.slice 34) := by kernel_rfl
theorem c44 : Try.prog.cellsOf 44 = 16 := by kernel_rfl
theorem u34 : Try.prog.underlying 34 = some (.slice 5) := by kernel_rfl
theorem c5 : Try.prog.cellsOf 5 = 1 := by kernel_rfl
theorem c23 : Try.prog.cellsOf 23 = 32 := by kernel_rfl
theorem c25 : Try.prog.cellsOf 25 = 12 := by kernel_rfl

theorem law_of {s : ChangeSpec} (h : s.vars = [] ∧ ∀ (H : Type) (d1 d2 d3 : DataW H), (s.fn H [d1, d2, d3]) = { results := [.lit (.bool true)], args := [d1, d2, d3] }) : Law s 3 := by
  refine ⟨h.1, fun H ds hl => ?_⟩
  match ds, hl with
  | [d1, d2, d3], _ => rw [h.2]; exact ⟨rfl, rfl, rfl⟩

theorem law_of2 {s : ChangeSpec} (h : s.vars = [] ∧ ∀ (H : Type) (d1 d2 : DataW H), (s.fn H [d1, d2]) = { results := [.lit (.bool true)], args := [d1, d2] }) : Law s 2 := by
  refine ⟨h.1, fun H ds hl => ?_⟩
  match ds, hl with
  | [d1, d2], _ => rw [h.2]; exact ⟨rfl, rfl, rfl⟩

end Go.Proofs.Ytgebgjhjegadpaa

namespace Go.Proofs.Ytgebgjhjegadpaa
open Go Go.ChangeShapes Go.WideShapes

set_option maxRecDepth 100000 in
theorem r15 (o : OpsC) (key nonce xs bs : List Nat) : runB Try.prog (envC o) [] .nat 7 Try.f15 [.agg [.ints .u8 32 key, .ints .u8 12 nonce], .s (.xsl (.ints .u8 xs)), .s (.xsl (.ints .u8 bs))] [] =
(nd [decide (xs.length < 9223372036854775808), decide (min xs.length 3000 < 9223372036854775808), decide (min xs.length 3000 ≤ xs.length), decide (bs.length < 9223372036854775808), decide (min bs.length 3000 < 9223372036854775808), decide (min bs.length 3000 ≤ bs.length), decide ((List.take (min xs.length 3000) xs).length < 9223372036854775808), o.okL [List.take (min bs.length 3000) bs]]
 (cond (o.lg (List.take (min xs.length 3000) xs) [List.take (min bs.length 3000) bs])
 (nd [decide ((List.take (min bs.length 3000) bs).length < 9223372036854775808), decide ((List.take (min bs.length 3000) bs).length / 2 ≤ (List.take (min bs.length 3000) bs).length), decide ((List.take (min bs.length 3000) bs).length < 9223372036854775808), decide ((List.take (min bs.length 3000) bs).length / 2 ≤ (List.take (min bs.length 3000) bs).length), o.okL [List.take ((List.take (min bs.length 3000) bs).length / 2) (List.take (min bs.length 3000) bs), [], List.drop ((List.take (min bs.length 3000) bs).length / 2) (List.take (min bs.length 3000) bs)]]
 (cond (o.lo [] [List.take ((List.take (min bs.length 3000) bs).length / 2) (List.take (min bs.length 3000) bs), [], List.drop ((List.take (min bs.length 3000) bs).length / 2) (List.take (min bs.length 3000) bs)])
 (some (AV.s (SV.bool false), []))
 (some (AV.s (SV.bool false), []))))
 (nd [decide ((List.take (min bs.length 3000) bs).length < 9223372036854775808), decide ((List.take (min bs.length 3000) bs).length / 2 ≤ (List.take (min bs.length 3000) bs).length), decide ((List.take (min bs.length 3000) bs).length < 9223372036854775808), decide ((List.take (min bs.length 3000) bs).length / 2 ≤ (List.take (min bs.length 3000) bs).length), decide ((List.take (min xs.length 3000) xs).length + 16 = (List.take (min xs.length 3000) xs).length + 16), decide ((o.sl key nonce (List.take (min xs.length 3000) xs) (o.cat [List.take (min bs.length 3000) bs] 1)).length < 9223372036854775808), o.okL [List.take ((List.take (min bs.length 3000) bs).length / 2) (List.take (min bs.length 3000) bs), [], List.drop ((List.take (min bs.length 3000) bs).length / 2) (List.take (min bs.length 3000) bs)]]
 (cond (o.lo (o.sl key nonce (List.take (min xs.length 3000) xs) (o.cat [List.take (min bs.length 3000) bs] 1)) [List.take ((List.take (min bs.length 3000) bs).length / 2) (List.take (min bs.length 3000) bs), [], List.drop ((List.take (min bs.length 3000) bs).length / 2) (List.take (min bs.length 3000) bs)])
 (some (AV.s (SV.bool false), []))
 (cond (decide ((o.sl key nonce (List.take (min xs.length 3000) xs) (o.cat [List.take (min bs.length 3000) bs] 1)).length < 16))
 (some (AV.s (SV.bool false), []))
 (cond (o.eq (o.mac key nonce (o.op (o.sl key nonce (List.take (min xs.length 3000) xs) (o.cat [List.take (min bs.length 3000) bs] 1))) (o.cat [List.take ((List.take (min bs.length 3000) bs).length / 2) (List.take (min bs.length 3000) bs), [], List.drop ((List.take (min bs.length 3000) bs).length / 2) (List.take (min bs.length 3000) bs)] 3)) (o.ls (o.sl key nonce (List.take (min xs.length 3000) xs) (o.cat [List.take (min bs.length 3000) bs] 1))))
 (nd [decide ((o.sl key nonce (List.take (min xs.length 3000) xs) (o.cat [List.take (min bs.length 3000) bs] 1)).length - 16 = (o.sl key nonce (List.take (min xs.length 3000) xs) (o.cat [List.take (min bs.length 3000) bs] 1)).length - 16)]
 (cond (!decide (o.mx key nonce (o.op (o.sl key nonce (List.take (min xs.length 3000) xs) (o.cat [List.take (min bs.length 3000) bs] 1))) = List.take (min xs.length 3000) xs))
 (some (AV.s (SV.bool false), []))
 (nd [decide ((List.take (min xs.length 3000) xs).length + 16 < 9223372036854775808), decide ((List.take (min xs.length 3000) xs).length < 9223372036854775808), decide ((List.take (min xs.length 3000) xs).length + 16 < 9223372036854775808)]
 (cond (!decide ((List.take (min xs.length 3000) xs).length + 16 = (List.take (min xs.length 3000) xs).length + 16))
 (some (AV.s (SV.bool false), []))
 (nd [decide ((List.take (min xs.length 3000) xs).length + 16 < 9223372036854775808), decide ((List.take (min ((List.take (min xs.length 3000) xs).length + 16) 15) (o.sl key nonce (List.take (min xs.length 3000) xs) (o.cat [List.take (min bs.length 3000) bs] 1))).length < 9223372036854775808), o.okL [List.take (min bs.length 3000) bs]]
 (cond (o.lo (List.take (min ((List.take (min xs.length 3000) xs).length + 16) 15) (o.sl key nonce (List.take (min xs.length 3000) xs) (o.cat [List.take (min bs.length 3000) bs] 1))) [List.take (min bs.length 3000) bs])
 (some (AV.s (SV.bool (decide (2 = 111))), []))
 (cond (decide ((List.take (min ((List.take (min xs.length 3000) xs).length + 16) 15) (o.sl key nonce (List.take (min xs.length 3000) xs) (o.cat [List.take (min bs.length 3000) bs] 1))).length < 16))
 (some (AV.s (SV.bool (decide (111 = 111))), []))
 (cond (o.eq (o.mac key nonce (o.op (List.take (min ((List.take (min xs.length 3000) xs).length + 16) 15) (o.sl key nonce (List.take (min xs.length 3000) xs) (o.cat [List.take (min bs.length 3000) bs] 1)))) (o.cat [List.take (min bs.length 3000) bs] 1)) (o.ls (List.take (min ((List.take (min xs.length 3000) xs).length + 16) 15) (o.sl key nonce (List.take (min xs.length 3000) xs) (o.cat [List.take (min bs.length 3000) bs] 1)))))
 (some (AV.s (SV.bool (decide (0 = 111))), []))
 (some (AV.s (SV.bool (decide (100 = 111))), []))))))))))
 (some (AV.s (SV.bool false), [])))))))) := by kernel_rfl

set_option maxRecDepth 100000 in
theorem r16 (o : OpsC) (key nonce xs bs : List Nat) : runB Try.prog (envC o) [] .nat 7 Try.f16 [.agg [.ints .u8 32 key, .ints .u8 12 nonce], .s (.xsl (.ints .u8 xs)), .agg [.ints .u8 16 bs]] [] =
(nd [decide (xs.length < 9223372036854775808), decide (min xs.length 1000 < 9223372036854775808), decide (min xs.length 1000 ≤ xs.length), decide ((List.take (min xs.length 1000) xs).length < 9223372036854775808), o.okL []]
 (cond (o.lg (List.take (min xs.length 1000) xs) [])
 (some (AV.s (SV.bool false), []))
 (nd [decide ((List.take (min xs.length 1000) xs).length + 16 < 9223372036854775808), decide ((List.take (min xs.length 1000) xs).length + 16 - 16 ≤ (List.take (min xs.length 1000) xs).length + 16), decide ((List.take (min xs.length 1000) xs).length + 16 - 16 + ((List.take (min xs.length 1000) xs).length + 16 - ((List.take (min xs.length 1000) xs).length + 16 - 16)) = (List.take (min xs.length 1000) xs).length + 16), decide ((List.take (min xs.length 1000) xs).length + 16 - 16 ≤ (List.take (min xs.length 1000) xs).length + 16), decide ((List.take (min xs.length 1000) xs).length + 16 - 16 ≤ (List.take (min xs.length 1000) xs).length + 16), decide (0 + ((List.take (min xs.length 1000) xs).length + 16 - 16) ≤ 4398046511104), decide (0 + ((List.take (min xs.length 1000) xs).length + 16 - 16) = 0 + ((List.take (min xs.length 1000) xs).length + 16 - 16)), decide (0 + ((List.take (min xs.length 1000) xs).length + 16 - 16) + 16 ≤ 4398046511104), decide (0 + ((List.take (min xs.length 1000) xs).length + 16 - 16) + 16 = 0 + ((List.take (min xs.length 1000) xs).length + 16 - 16) + 16), decide ((List.take ((List.take (min xs.length 1000) xs).length + 16 - 16) (o.sl key nonce (List.take (min xs.length 1000) xs) (o.cat [] 0)) ++ bs).length < 9223372036854775808), o.okL []]
 (cond (o.lo (List.take ((List.take (min xs.length 1000) xs).length + 16 - 16) (o.sl key nonce (List.take (min xs.length 1000) xs) (o.cat [] 0)) ++ bs) [])
 (cond (decide (List.drop ((List.take (min xs.length 1000) xs).length + 16 - 16) (o.sl key nonce (List.take (min xs.length 1000) xs) (o.cat [] 0)) = bs))
 (cond (!decide (List.drop ((List.take (min xs.length 1000) xs).length + 16 - 16) (o.sl key nonce (List.take (min xs.length 1000) xs) (o.cat [] 0)) = bs))
 (some (AV.s (SV.bool false), []))
 (some (AV.s (SV.bool false), [])))
 (cond (!decide (List.drop ((List.take (min xs.length 1000) xs).length + 16 - 16) (o.sl key nonce (List.take (min xs.length 1000) xs) (o.cat [] 0)) = bs))
 (some (AV.s (SV.bool false), []))
 (some (AV.s (SV.bool false), []))))
 (cond (decide ((List.take ((List.take (min xs.length 1000) xs).length + 16 - 16) (o.sl key nonce (List.take (min xs.length 1000) xs) (o.cat [] 0)) ++ bs).length < 16))
 (cond (decide (List.drop ((List.take (min xs.length 1000) xs).length + 16 - 16) (o.sl key nonce (List.take (min xs.length 1000) xs) (o.cat [] 0)) = bs))
 (cond (!decide (List.drop ((List.take (min xs.length 1000) xs).length + 16 - 16) (o.sl key nonce (List.take (min xs.length 1000) xs) (o.cat [] 0)) = bs))
 (some (AV.s (SV.bool false), []))
 (some (AV.s (SV.bool false), [])))
 (cond (!decide (List.drop ((List.take (min xs.length 1000) xs).length + 16 - 16) (o.sl key nonce (List.take (min xs.length 1000) xs) (o.cat [] 0)) = bs))
 (some (AV.s (SV.bool false), []))
 (some (AV.s (SV.bool false), []))))
 (cond (o.eq (o.mac key nonce (o.op (List.take ((List.take (min xs.length 1000) xs).length + 16 - 16) (o.sl key nonce (List.take (min xs.length 1000) xs) (o.cat [] 0)) ++ bs)) (o.cat [] 0)) (o.ls (List.take ((List.take (min xs.length 1000) xs).length + 16 - 16) (o.sl key nonce (List.take (min xs.length 1000) xs) (o.cat [] 0)) ++ bs)))
 (cond (decide (List.drop ((List.take (min xs.length 1000) xs).length + 16 - 16) (o.sl key nonce (List.take (min xs.length 1000) xs) (o.cat [] 0)) = bs))
 (nd [decide ((List.take ((List.take (min xs.length 1000) xs).length + 16 - 16) (o.sl key nonce (List.take (min xs.length 1000) xs) (o.cat [] 0)) ++ bs).length - 16 = (List.take ((List.take (min xs.length 1000) xs).length + 16 - 16) (o.sl key nonce (List.take (min xs.length 1000) xs) (o.cat [] 0)) ++ bs).length - 16)]
 (cond (decide (o.mx key nonce (o.op (List.take ((List.take (min xs.length 1000) xs).length + 16 - 16) (o.sl key nonce (List.take (min xs.length 1000) xs) (o.cat [] 0)) ++ bs)) = List.take (min xs.length 1000) xs))
 (some (AV.s (SV.bool true), []))
 (cond (!decide (List.drop ((List.take (min xs.length 1000) xs).length + 16 - 16) (o.sl key nonce (List.take (min xs.length 1000) xs) (o.cat [] 0)) = bs))
 (some (AV.s (SV.bool false), []))
 (some (AV.s (SV.bool false), [])))))
 (cond (!decide (List.drop ((List.take (min xs.length 1000) xs).length + 16 - 16) (o.sl key nonce (List.take (min xs.length 1000) xs) (o.cat [] 0)) = bs))
 (some (AV.s (SV.bool false), []))
 (some (AV.s (SV.bool false), []))))
 (cond (decide (List.drop ((List.take (min xs.length 1000) xs).length + 16 - 16) (o.sl key nonce (List.take (min xs.length 1000) xs) (o.cat [] 0)) = bs))
 (cond (!decide (List.drop ((List.take (min xs.length 1000) xs).length + 16 - 16) (o.sl key nonce (List.take (min xs.length 1000) xs) (o.cat [] 0)) = bs))
 (some (AV.s (SV.bool (decide (0 = 0))), []))
 (some (AV.s (SV.bool false), [])))
 (cond (!decide (List.drop ((List.take (min xs.length 1000) xs).length + 16 - 16) (o.sl key nonce (List.take (min xs.length 1000) xs) (o.cat [] 0)) = bs))
 (some (AV.s (SV.bool (decide (0 = 0))), []))
 (some (AV.s (SV.bool false), [])))))))))) := by kernel_rfl

theorem ctr15 {key nonce xs bs : List Nat} (h1 : xs.length < 9223372036854775808) (h2 : bs.length < 9223372036854775808) :
    Ctr Try.prog 15 [.agg [.ints .u8 32 key, .ints .u8 12 nonce], .s (.xsl (.ints .u8 xs)), .s (.xsl (.ints .u8 bs))] [] (.s (.bool true)) [] := by
  refine ctrB (fs := envC opsC) (xs := []) (m := .nat) (fuel := 7) envC_ok fn15 ?_
  have hX := take_min xs 3000
  have hB := take_min bs 3000
  rw [r15, opsC_sl, opsC_mx, opsC_mac, opsC_okL, opsC_cat, opsC_op, opsC_ls]
  generalize hx : List.take (min xs.length 3000) xs = X at *
  generalize hb : List.take (min bs.length 3000) bs = B at *
  rw [catN_1, cat3, opT_slT, lsT_slT, mx_mx, slT_len, List.append_nil, List.take_append_drop]
  have hl3 : lenN [List.take (B.length / 2) B, [], List.drop (B.length / 2) B] 3 = B.length := by
    rw [len3, List.length_take, List.length_drop, List.length_nil]
    omega
  have hl1 := lenN_1 B
  have k1 : okLens [B] = true := okL_1 (by omega)
  have k3 : okLens [List.take (B.length / 2) B, [], List.drop (B.length / 2) B] = true := okL_of fun p hp => by
    simp only [List.mem_cons, List.not_mem_nil, or_false] at hp
    rcases hp with rfl | rfl | rfl
    · rw [List.length_take]; omega
    · decide
    · rw [List.length_drop]; omega
  have g1 : opsC.lg X [B] = false := lg_small (by omega) (by show lenN [B] 1 ≤ _; omega)
  have g2 : opsC.lo (slT key nonce X B) [List.take (B.length / 2) B, [], List.drop (B.length / 2) B] = false := lo_small (by rw [slT_len]; omega) (by show lenN _ 3 ≤ _; omega)
  have ht : (List.take (min (X.length + 16) 15) (slT key nonce X B)).length = 15 := by
    rw [List.length_take, slT_len]
    omega
  have g3 : opsC.lo (List.take (min (X.length + 16) 15) (slT key nonce X B)) [B] = false := lo_small (by omega) (by show lenN [B] 1 ≤ _; omega)
  rw [ht]
  refine nd_of ?_ (cond_f g1 (nd_of ?_ (cond_f g2 (cond_f (decide_eq_false (by omega)) (cond_t (eq_true' rfl) (nd_of ?_ (cond_f ?_ (nd_of ?_ (cond_f ?_ (nd_of ?_ (cond_f g3 (cond_t (decide_eq_true (by decide)) ?_))))))))))))
  · simp only [List.mem_cons, List.not_mem_nil, or_false, forall_eq_or_imp, forall_eq, decide_eq_true_eq]
    exact ⟨h1, by omega, by omega, h2, by omega, by omega, by omega, k1⟩
  · simp only [List.mem_cons, List.not_mem_nil, or_false, forall_eq_or_imp, forall_eq, decide_eq_true_eq]
    exact ⟨by omega, by omega, by omega, by omega, trivial, by omega, k3⟩
  · simp only [List.mem_cons, List.not_mem_nil, or_false, forall_eq, decide_eq_true_eq]
  · rw [decide_eq_true rfl]; rfl
  · simp only [List.mem_cons, List.not_mem_nil, or_false, forall_eq_or_imp, forall_eq, decide_eq_true_eq]
    exact ⟨by omega, by omega, by omega⟩
  · rw [decide_eq_true rfl]; rfl
  · simp only [List.mem_cons, List.not_mem_nil, or_false, forall_eq_or_imp, forall_eq, decide_eq_true_eq]
    exact ⟨by omega, by omega, k1⟩
  · rfl

theorem ctr16 {key nonce xs bs : List Nat} (h1 : xs.length < 9223372036854775808) (hl : bs.length = 16) :
    Ctr Try.prog 16 [.agg [.ints .u8 32 key, .ints .u8 12 nonce], .s (.xsl (.ints .u8 xs)), .agg [.ints .u8 16 bs]] [] (.s (.bool true)) [] := by
  refine ctrB (fs := envC opsC) (xs := []) (m := .nat) (fuel := 7) envC_ok fn16 ?_
  have hX := take_min xs 1000
  rw [r16, opsC_sl, opsC_mx, opsC_mac, opsC_okL, opsC_cat, opsC_op, opsC_ls]
  generalize hx : List.take (min xs.length 1000) xs = X at *
  have e0 : catN [] 0 = [] := rfl
  rw [e0]
  have et : List.take (X.length + 16 - 16) (slT key nonce X []) = mxT key nonce X := by
    have := opT_slT key nonce X []
    unfold opT at this
    rwa [slT_len] at this
  have ed : List.drop (X.length + 16 - 16) (slT key nonce X []) = macT key nonce (mxT key nonce X) [] := by
    have := lsT_slT key nonce X []
    unfold lsT at this
    rwa [slT_len] at this
  have hml := mxT_len key nonce X
  have hL : (mxT key nonce X ++ bs).length = X.length + 16 := by rw [List.length_append, hml, hl]
  have eo : opT (mxT key nonce X ++ bs) = mxT key nonce X := by
    unfold opT
    rw [hL, Nat.add_sub_cancel, ← hml, List.take_left' rfl]
  have es : lsT (mxT key nonce X ++ bs) = bs := by
    unfold lsT
    rw [hL, Nat.add_sub_cancel, ← hml, List.drop_left' rfl]
  rw [et, ed, eo, es, mx_mx, hL]
  have k0 : okLens [] = true := rfl
  have g1 : opsC.lg X [] = false := lg_small (by omega) (by decide)
  have g2 : opsC.lo (mxT key nonce X ++ bs) [] = false := lo_small (by omega) (by decide)
  refine nd_of ?_ (cond_f g1 (nd_of ?_ (cond_f g2 (cond_f (decide_eq_false (by omega)) ?_))))
  · simp only [List.mem_cons, List.not_mem_nil, or_false, forall_eq_or_imp, forall_eq, decide_eq_true_eq]
    exact ⟨h1, by omega, by omega, by omega, k0⟩
  · simp only [List.mem_cons, List.not_mem_nil, or_false, forall_eq_or_imp, forall_eq, decide_eq_true_eq]
    exact ⟨by omega, by omega, by omega, by omega, by omega, by omega, trivial, by omega, trivial, by omega, k0⟩
  · by_cases he : macT key nonce (mxT key nonce X) [] = bs
    · refine cond_t (eq_true' he) (cond_t (decide_eq_true he) (nd_of ?_ (cond_t (decide_eq_true rfl) rfl)))
      simp only [List.mem_cons, List.not_mem_nil, or_false, forall_eq, decide_eq_true_eq]
    · have hf : opsC.eq (macT key nonce (mxT key nonce X) []) bs = false := by
        rw [opsC_eq]
        exact decide_eq_false he
      refine cond_f hf (cond_f (decide_eq_false he) (cond_t ?_ rfl))
      rw [decide_eq_false he]
      rfl

/-! Arguments. -/
section
variable {H : Type} {enc : TypeId × Value → H} {P : Program} {W : World} {r : Reach} {b0 base : Nat} {spare : Nat → Bool} {held : Bool} {t : TypeId} {v : Value} {d : DataW H} {ps : List MemPlace}

/-- A key with its nonce, by value. -/
theorem open_boxV {f0 f1 : Field} {e : TypeId} (ht : P.underlying t = some (.struct #[f0, f1])) (he : P.underlying e = some (.int .u8)) (hce : P.cellsOf e = 1)
    (h0 : P.underlying f0.type = some (.array 32 e)) (c0 : P.cellsOf f0.type = 32) (h1 : P.underlying f1.type = some (.array 12 e)) (c1 : P.cellsOf f1.type = 12) (o0 : f0.offset = 0) (o1 : f1.offset = 32) (ct : P.cellsOf t = 44)
    (hval : Value.okWide P W r b0 t v) (hd : DataW.Trod enc P W base spare held t v d ps) :
    ∃ xs ys : List Nat, xs.length = 32 ∧ (∀ x ∈ xs, x < 256) ∧ ys.length = 12 ∧ (∀ y ∈ ys, y < 256) ∧ v = .agg (xs.map (fun x : Nat => Value.int .u8 x) ++ ys.map (fun x : Nat => Value.int .u8 x)).toArray := by
  obtain ⟨fuel, hd⟩ := hd
  simp only [Value.okWide, ht] at hval
  obtain ⟨cs, rfl, _, _⟩ := hval
  obtain ⟨y0, y1, n, _, hl, g0, g1⟩ := trod_struct2 ht hd
  rw [o0, c0] at g0
  rw [o1, c1] at g1
  obtain ⟨xs, x1, x2, x3⟩ := open_arrC (k := .u8) rfl he hce h0 c0 g0
  obtain ⟨ys, z1, z2, z3⟩ := open_arrC (k := .u8) rfl he hce h1 c1 g1
  refine ⟨xs, ys, x1, x2, z1, z2, ?_⟩
  have hc : (Value.agg cs).cells.toList.length = 44 := by rw [hl, ct]
  congr 1
  apply Array.ext'
  have e : (Value.agg cs).cells.toList = cs.toList := by simp [Value.cells]
  rw [e] at x3 z3 hc
  rw [← x3, ← z3]
  simp only [List.drop_zero]
  rw [List.take_of_length_le (l := List.drop 32 cs.toList) (by rw [List.length_drop]; omega), List.take_append_drop]

theorem relBox {cx : Cx} {β : Bm} {xs ys : List Nat} (h1 : xs.length = 32) (h2 : ∀ x ∈ xs, x < 256) (h3 : ys.length = 12) (h4 : ∀ y ∈ ys, y < 256) :
    RelV cx β (.agg [.ints .u8 32 xs, .ints .u8 12 ys]) (.agg (xs.map (fun x : Nat => Value.int .u8 x) ++ ys.map (fun x : Nat => Value.int .u8 x)).toArray) :=
  ⟨_, rfl, h1, h2, _, rfl, h3, h4, [], by simp, rfl⟩
end

theorem u58 : Try.prog.underlying 58 = some (.struct #[{ name := "Key", type := 23, offset := 0, embedded := false, tag := "", pkgPath := "", byteOffset := 0 }, { name := "Nonce", type := 25, offset := 32, embedded := false, tag := "", pkgPath := "", byteOffset := 32 }]) := by kernel_rfl
theorem c58 : Try.prog.cellsOf 58 = 44 := by kernel_rfl

end Go.Proofs.Ytgebgjhjegadpaa

namespace Go.Proofs.Ytgebgjhjegadpaa
open Go

theorem fn13 : Fn Try.prog 13 Try.f13 := ⟨mixed, Try.func13, by kernel_rfl, of_decide_eq_true (by kernel_rfl)⟩
theorem fn14 : Fn Try.prog 14 Try.f14 := ⟨mixed, Try.func14, by kernel_rfl, of_decide_eq_true (by kernel_rfl)⟩
theorem fn18 : Fn Try.prog 18 Try.f18 := ⟨mixed, Try.func18, by kernel_rfl, of_decide_eq_true (by kernel_rfl)⟩

structure OpsE extends OpsC where
  dg : List Nat → List Nat → Bool
  dl : List Nat → List Nat → Bool
  b8 : List Nat → Bool
def opsE : OpsE := { toOpsC := opsC, dg := fun s b => decide (1048576 < s.length) || decide (1048576 < b.length), dl := fun s b => decide (1048592 < s.length) || decide (1048576 < b.length), b8 := b8 }
theorem opsE_opsC : opsE.toOpsC = opsC := by kernel_rfl
theorem opsE_dg : opsE.dg = (fun s b => decide (1048576 < s.length) || decide (1048576 < b.length)) := by kernel_rfl
theorem opsE_dl : opsE.dl = (fun s b => decide (1048592 < s.length) || decide (1048576 < b.length)) := by kernel_rfl
theorem opsE_b8 : opsE.b8 = b8 := by kernel_rfl

def Y29 (o : OpsE) : FSem := ⟨false, fun args hin => match args, hin with
  | [.agg [.ints .u8 32 key], .agg [.ints .u8 12 nonce], .s (.str s), .s (.str b)], [] =>
    some (Tr.needs [o.b8 key, o.b8 nonce, o.b8 s, o.b8 b, decide (s.length < 4611686018427387904), decide (b.length < 4611686018427387904)]
      (.br (o.dg s b) (.leaf (.tup [.s (.str []), .s (.nat .i64 2)], [])) (.leaf (.tup [.s (.str (o.sl key nonce s b)), .s (.nat .i64 0)], []))))
  | _, _ => none⟩
theorem yy29 : FOk Try.prog 29 (Y29 opsE) := by
  have e : Y29 opsE = F29 := by kernel_rfl
  rw [e]
  exact ok29

def Y31 (o : OpsE) : FSem := ⟨false, fun args hin => match args, hin with
  | [.agg [.ints .u8 32 key], .agg [.ints .u8 12 nonce], .s (.str s), .s (.str b)], [] =>
    some (Tr.needs [o.b8 key, o.b8 nonce, o.b8 s, o.b8 b, decide (s.length < 4611686018427387904), decide (b.length < 4611686018427387904)]
      (.br (o.dl s b) (.leaf (.tup [.s (.str []), .s (.nat .i64 2)], []))
        (.br (decide (s.length < 16)) (.leaf (.tup [.s (.str []), .s (.nat .i64 111)], []))
          (.br (o.eq (o.mac key nonce (o.op s) b) (o.ls s)) (.leaf (.tup [.s (.str (o.mx key nonce (o.op s))), .s (.nat .i64 0)], [])) (.leaf (.tup [.s (.str []), .s (.nat .i64 100)], []))))))
  | _, _ => none⟩
theorem yy31 : FOk Try.prog 31 (Y31 opsE) := by
  have e : Y31 opsE = F31 := by kernel_rfl
  rw [e]
  exact ok31

def envE (o : OpsE) : List (Nat × FSem) := (29, Y29 o) :: (31, Y31 o) :: envC o.toOpsC
theorem envE_ok : EnvOk ⟨Try.prog, envE opsE, []⟩ := .cons yy29 (.cons yy31 envC_ok)

end Go.Proofs.Ytgebgjhjegadpaa

namespace Go.Proofs.Ytgebgjhjegadpaa
open Go

set_option maxRecDepth 100000 in
theorem r13 (o : OpsE) (key nonce xs bs : List Nat) : runB Try.prog (envE o) [] .nat 7 Try.f13 [.agg [.ints .u8 32 key, .ints .u8 12 nonce], .s (.xsl (.ints .u8 xs)), .s (.xsl (.ints .u8 bs))] [] =
(nd [decide (xs.length < 9223372036854775808), decide (min xs.length 300 < 9223372036854775808), decide (min xs.length 300 ≤ xs.length), decide (bs.length < 9223372036854775808), decide (min bs.length 300 < 9223372036854775808), decide (min bs.length 300 ≤ bs.length), decide ((List.take (min xs.length 300) xs).length < 9223372036854775808), o.okL [List.take (min bs.length 300) bs]]
 (cond (o.lg (List.take (min xs.length 300) xs) [List.take (min bs.length 300) bs])
 (nd [o.b8 key, o.b8 nonce, o.b8 (List.take (min xs.length 300) xs), o.b8 (List.take (min bs.length 300) bs), decide ((List.take (min xs.length 300) xs).length < 4611686018427387904), decide ((List.take (min bs.length 300) bs).length < 4611686018427387904)]
 (cond (o.dg (List.take (min xs.length 300) xs) (List.take (min bs.length 300) bs))
 (some (AV.s (SV.bool (decide (2 = 2))), []))
 (cond (decide ([] = o.sl key nonce (List.take (min xs.length 300) xs) (List.take (min bs.length 300) bs)))
 (some (AV.s (SV.bool (decide (2 = 0))), []))
 (some (AV.s (SV.bool false), [])))))
 (nd [o.b8 key, o.b8 nonce, o.b8 (List.take (min xs.length 300) xs), o.b8 (List.take (min bs.length 300) bs), decide ((List.take (min xs.length 300) xs).length < 4611686018427387904), decide ((List.take (min bs.length 300) bs).length < 4611686018427387904)]
 (cond (o.dg (List.take (min xs.length 300) xs) (List.take (min bs.length 300) bs))
 (nd [decide ((List.take (min xs.length 300) xs).length + 16 = (List.take (min xs.length 300) xs).length + 16)]
 (cond (decide (o.sl key nonce (List.take (min xs.length 300) xs) (o.cat [List.take (min bs.length 300) bs] 1) = []))
 (some (AV.s (SV.bool (decide (0 = 2))), []))
 (some (AV.s (SV.bool false), []))))
 (nd [decide ((List.take (min xs.length 300) xs).length + 16 = (List.take (min xs.length 300) xs).length + 16)]
 (cond (decide (o.sl key nonce (List.take (min xs.length 300) xs) (o.cat [List.take (min bs.length 300) bs] 1) = o.sl key nonce (List.take (min xs.length 300) xs) (List.take (min bs.length 300) bs)))
 (some (AV.s (SV.bool (decide (0 = 0))), []))
 (some (AV.s (SV.bool false), [])))))))) := by kernel_rfl

set_option maxRecDepth 100000 in
theorem r14 (o : OpsE) (key nonce xs bs : List Nat) : runB Try.prog (envE o) [] .nat 7 Try.f14 [.agg [.ints .u8 32 key, .ints .u8 12 nonce], .s (.xsl (.ints .u8 xs)), .s (.xsl (.ints .u8 bs))] [] =
(nd [decide (xs.length < 9223372036854775808), decide (min xs.length 300 < 9223372036854775808), decide (min xs.length 300 ≤ xs.length), decide (bs.length < 9223372036854775808), decide (min bs.length 300 < 9223372036854775808), decide (min bs.length 300 ≤ bs.length), decide ((List.take (min xs.length 300) xs).length < 9223372036854775808), o.okL [List.take (min bs.length 300) bs]]
 (cond (o.lo (List.take (min xs.length 300) xs) [List.take (min bs.length 300) bs])
 (nd [o.b8 key, o.b8 nonce, o.b8 (List.take (min xs.length 300) xs), o.b8 (List.take (min bs.length 300) bs), decide ((List.take (min xs.length 300) xs).length < 4611686018427387904), decide ((List.take (min bs.length 300) bs).length < 4611686018427387904)]
 (cond (o.dl (List.take (min xs.length 300) xs) (List.take (min bs.length 300) bs))
 (some (AV.s (SV.bool (decide (2 = 2))), []))
 (cond (decide ((List.take (min xs.length 300) xs).length < 16))
 (some (AV.s (SV.bool (decide (2 = 111))), []))
 (cond (o.eq (o.mac key nonce (o.op (List.take (min xs.length 300) xs)) (List.take (min bs.length 300) bs)) (o.ls (List.take (min xs.length 300) xs)))
 (cond (decide ([] = o.mx key nonce (o.op (List.take (min xs.length 300) xs))))
 (some (AV.s (SV.bool (decide (2 = 0))), []))
 (some (AV.s (SV.bool false), [])))
 (some (AV.s (SV.bool (decide (2 = 100))), []))))))
 (cond (decide ((List.take (min xs.length 300) xs).length < 16))
 (nd [o.b8 key, o.b8 nonce, o.b8 (List.take (min xs.length 300) xs), o.b8 (List.take (min bs.length 300) bs), decide ((List.take (min xs.length 300) xs).length < 4611686018427387904), decide ((List.take (min bs.length 300) bs).length < 4611686018427387904)]
 (cond (o.dl (List.take (min xs.length 300) xs) (List.take (min bs.length 300) bs))
 (some (AV.s (SV.bool (decide (111 = 2))), []))
 (cond (decide ((List.take (min xs.length 300) xs).length < 16))
 (some (AV.s (SV.bool (decide (111 = 111))), []))
 (cond (o.eq (o.mac key nonce (o.op (List.take (min xs.length 300) xs)) (List.take (min bs.length 300) bs)) (o.ls (List.take (min xs.length 300) xs)))
 (cond (decide ([] = o.mx key nonce (o.op (List.take (min xs.length 300) xs))))
 (some (AV.s (SV.bool (decide (111 = 0))), []))
 (some (AV.s (SV.bool false), [])))
 (some (AV.s (SV.bool (decide (111 = 100))), []))))))
 (cond (o.eq (o.mac key nonce (o.op (List.take (min xs.length 300) xs)) (o.cat [List.take (min bs.length 300) bs] 1)) (o.ls (List.take (min xs.length 300) xs)))
 (nd [o.b8 key, o.b8 nonce, o.b8 (List.take (min xs.length 300) xs), o.b8 (List.take (min bs.length 300) bs), decide ((List.take (min xs.length 300) xs).length < 4611686018427387904), decide ((List.take (min bs.length 300) bs).length < 4611686018427387904)]
 (cond (o.dl (List.take (min xs.length 300) xs) (List.take (min bs.length 300) bs))
 (nd [decide ((List.take (min xs.length 300) xs).length - 16 = (List.take (min xs.length 300) xs).length - 16)]
 (cond (decide (o.mx key nonce (o.op (List.take (min xs.length 300) xs)) = []))
 (some (AV.s (SV.bool (decide (0 = 2))), []))
 (some (AV.s (SV.bool false), []))))
 (cond (decide ((List.take (min xs.length 300) xs).length < 16))
 (nd [decide ((List.take (min xs.length 300) xs).length - 16 = (List.take (min xs.length 300) xs).length - 16)]
 (cond (decide (o.mx key nonce (o.op (List.take (min xs.length 300) xs)) = []))
 (some (AV.s (SV.bool (decide (0 = 111))), []))
 (some (AV.s (SV.bool false), []))))
 (cond (o.eq (o.mac key nonce (o.op (List.take (min xs.length 300) xs)) (List.take (min bs.length 300) bs)) (o.ls (List.take (min xs.length 300) xs)))
 (nd [decide ((List.take (min xs.length 300) xs).length - 16 = (List.take (min xs.length 300) xs).length - 16)]
 (cond (decide (o.mx key nonce (o.op (List.take (min xs.length 300) xs)) = o.mx key nonce (o.op (List.take (min xs.length 300) xs))))
 (some (AV.s (SV.bool (decide (0 = 0))), []))
 (some (AV.s (SV.bool false), []))))
 (nd [decide ((List.take (min xs.length 300) xs).length - 16 = (List.take (min xs.length 300) xs).length - 16)]
 (cond (decide (o.mx key nonce (o.op (List.take (min xs.length 300) xs)) = []))
 (some (AV.s (SV.bool (decide (0 = 100))), []))
 (some (AV.s (SV.bool false), []))))))))
 (nd [o.b8 key, o.b8 nonce, o.b8 (List.take (min xs.length 300) xs), o.b8 (List.take (min bs.length 300) bs), decide ((List.take (min xs.length 300) xs).length < 4611686018427387904), decide ((List.take (min bs.length 300) bs).length < 4611686018427387904)]
 (cond (o.dl (List.take (min xs.length 300) xs) (List.take (min bs.length 300) bs))
 (some (AV.s (SV.bool (decide (100 = 2))), []))
 (cond (decide ((List.take (min xs.length 300) xs).length < 16))
 (some (AV.s (SV.bool (decide (100 = 111))), []))
 (cond (o.eq (o.mac key nonce (o.op (List.take (min xs.length 300) xs)) (List.take (min bs.length 300) bs)) (o.ls (List.take (min xs.length 300) xs)))
 (cond (decide ([] = o.mx key nonce (o.op (List.take (min xs.length 300) xs))))
 (some (AV.s (SV.bool (decide (100 = 0))), []))
 (some (AV.s (SV.bool false), [])))
 (some (AV.s (SV.bool (decide (100 = 100))), [])))))))))) := by kernel_rfl

theorem dg_small {s b : List Nat} (h1 : s.length ≤ 1048576) (h2 : b.length ≤ 1048576) : opsE.dg s b = false := by
  rw [opsE_dg]
  show (decide (1048576 < s.length) || decide (1048576 < b.length)) = false
  rw [decide_eq_false (by omega), decide_eq_false (by omega)]
  rfl
theorem dl_small {s b : List Nat} (h1 : s.length ≤ 1048592) (h2 : b.length ≤ 1048576) : opsE.dl s b = false := by
  rw [opsE_dl]
  show (decide (1048592 < s.length) || decide (1048576 < b.length)) = false
  rw [decide_eq_false (by omega), decide_eq_false (by omega)]
  rfl

theorem b8_mem {l : List Nat} (h : ∀ x ∈ l, x < 256) : b8 l = true := allB_mem h

theorem ctr13 {key nonce xs bs : List Nat} (k1 : ∀ x ∈ key, x < 256) (k2 : ∀ x ∈ nonce, x < 256) (k3 : ∀ x ∈ xs, x < 256) (k4 : ∀ x ∈ bs, x < 256) (h1 : xs.length < 9223372036854775808) (h2 : bs.length < 9223372036854775808) :
    Ctr Try.prog 13 [.agg [.ints .u8 32 key, .ints .u8 12 nonce], .s (.xsl (.ints .u8 xs)), .s (.xsl (.ints .u8 bs))] [] (.s (.bool true)) [] := by
  refine ctrB (fs := envE opsE) (xs := []) (m := .nat) (fuel := 7) envE_ok fn13 ?_
  have hX := take_min xs 300
  have hB := take_min bs 300
  have k3' := b8_take (b8_mem k3) (min xs.length 300)
  have k4' := b8_take (b8_mem k4) (min bs.length 300)
  rw [r13, opsE_opsC, opsC_sl, opsC_okL, opsC_cat, opsE_b8]
  generalize hx : List.take (min xs.length 300) xs = X at *
  generalize hb : List.take (min bs.length 300) bs = B at *
  rw [catN_1]
  have hl1 := lenN_1 B
  have kk : okLens [B] = true := okL_1 (by omega)
  have g1 : opsC.lg X [B] = false := lg_small (by omega) (by show lenN [B] 1 ≤ _; omega)
  refine nd_of ?_ (cond_f g1 (nd_of ?_ (cond_f (dg_small (by omega) (by omega)) (nd_of ?_ (cond_t (decide_eq_true rfl) rfl)))))
  · simp only [List.mem_cons, List.not_mem_nil, or_false, forall_eq_or_imp, forall_eq, decide_eq_true_eq]
    exact ⟨h1, by omega, by omega, h2, by omega, by omega, by omega, kk⟩
  · simp only [List.mem_cons, List.not_mem_nil, or_false, forall_eq_or_imp, forall_eq, decide_eq_true_eq]
    exact ⟨b8_mem k1, b8_mem k2, k3', k4', by omega, by omega⟩
  · simp only [List.mem_cons, List.not_mem_nil, or_false, forall_eq, decide_eq_true_eq]

theorem ctr14 {key nonce xs bs : List Nat} (k1 : ∀ x ∈ key, x < 256) (k2 : ∀ x ∈ nonce, x < 256) (k3 : ∀ x ∈ xs, x < 256) (k4 : ∀ x ∈ bs, x < 256) (h1 : xs.length < 9223372036854775808) (h2 : bs.length < 9223372036854775808) :
    Ctr Try.prog 14 [.agg [.ints .u8 32 key, .ints .u8 12 nonce], .s (.xsl (.ints .u8 xs)), .s (.xsl (.ints .u8 bs))] [] (.s (.bool true)) [] := by
  refine ctrB (fs := envE opsE) (xs := []) (m := .nat) (fuel := 7) envE_ok fn14 ?_
  have hX := take_min xs 300
  have hB := take_min bs 300
  have k3' := b8_take (b8_mem k3) (min xs.length 300)
  have k4' := b8_take (b8_mem k4) (min bs.length 300)
  rw [r14, opsE_opsC, opsC_mac, opsC_mx, opsC_op, opsC_ls, opsC_okL, opsC_cat, opsE_b8]
  generalize hx : List.take (min xs.length 300) xs = X at *
  generalize hb : List.take (min bs.length 300) bs = B at *
  rw [catN_1]
  have hl1 := lenN_1 B
  have kk : okLens [B] = true := okL_1 (by omega)
  have g1 : opsC.lo X [B] = false := lo_small (by omega) (by show lenN [B] 1 ≤ _; omega)
  have g2 : opsE.dl X B = false := dl_small (by omega) (by omega)
  have hneed : ∀ c ∈ [b8 key, b8 nonce, b8 X, b8 B, decide (X.length < 4611686018427387904), decide (B.length < 4611686018427387904)], c = true := by
    simp only [List.mem_cons, List.not_mem_nil, or_false, forall_eq_or_imp, forall_eq, decide_eq_true_eq]
    exact ⟨b8_mem k1, b8_mem k2, k3', k4', by omega, by omega⟩
  refine nd_of ?_ (cond_f g1 ?_)
  · simp only [List.mem_cons, List.not_mem_nil, or_false, forall_eq_or_imp, forall_eq, decide_eq_true_eq]
    exact ⟨h1, by omega, by omega, h2, by omega, by omega, by omega, kk⟩
  by_cases h16 : X.length < 16
  · exact cond_t (decide_eq_true h16) (nd_of hneed (cond_f g2 (cond_t (decide_eq_true h16) rfl)))
  · refine cond_f (decide_eq_false h16) ?_
    cases he : opsC.eq (macT key nonce (opT X) B) (lsT X) with
    | true =>
      refine cond_t rfl (nd_of hneed (cond_f g2 (cond_f (decide_eq_false h16) (cond_t rfl (nd_of ?_ (cond_t (decide_eq_true rfl) rfl))))))
      simp only [List.mem_cons, List.not_mem_nil, or_false, forall_eq, decide_eq_true_eq]
    | false =>
      exact cond_f rfl (nd_of hneed (cond_f g2 (cond_f (decide_eq_false h16) (cond_f rfl rfl))))

end Go.Proofs.Ytgebgjhjegadpaa

namespace Go.Proofs.Ytgebgjhjegadpaa
open Go

theorem Ctr.drop {P : Program} {f : Nat} {args : List AV} {a b : AV} {hout : List (Option Blk)} (hb : ∀ (cx : Cx) (β β' : Bm) (cv : Value), RelV1 cx β b cv → RelV1 cx β' b cv) (h : Ctr P f args [] (.tup [a, b]) hout) : Ctr P f args [] (.tup [.any, b]) [] := by
  intro w X Wr β cargs hH hA
  refine (h w X Wr β cargs hH hA).mono fun e w' ⟨cv, β', he, hext, hv, hH'⟩ => ⟨cv, fun _ => none, he, ?_, ?_, ?_⟩
  · intro n p hn
    have := (hH.dom n p hn).1
    simp at this
  · obtain ⟨l, h1, c1, l1, h2, h3, c2, l2, h4, h5, h6⟩ := hv
    exact ⟨l, h1, c1, l1, h2, trivial, c2, l2, h4, hb _ _ _ _ h5, h6⟩
  · have hz : ∀ (n : Nat) (cs : Blk), houtF [] n = some cs → False := fun n cs e => by
      unfold houtF at e
      simp at e
    exact { size := hH'.size, frame := hH'.frame, xok := hH'.xok, dom := fun n p e => (by cases e), held := fun n p cs e _ => (by cases e), wf := fun n cs e => (hz n cs e).elim, hd := fun n cs e => (hz n cs e).elim, inj := fun n m p q e _ _ _ _ => (by cases e), os := hH'.os, tape := hH'.tape, output := hH'.output }

theorem Tr.needs_true {α : Type} {t : Tr α} : ∀ {rs : List Bool}, (∀ b ∈ rs, b = true) → (Tr.needs rs t).get = t.get
  | [], _ => rfl
  | c :: cs, h => by
    have hc := h c List.mem_cons_self
    subst hc
    show (Tr.needs cs t).get = t.get
    exact Tr.needs_true (rs := cs) fun b hb => h b (List.mem_cons_of_mem _ hb)

/-- The error's number. -/
def ecT (key nonce xs bd : List Nat) : Nat :=
  cond (decide (1048592 < xs.length) || decide (1048576 < bd.length)) 2 (cond (decide (xs.length < 16)) 111 (cond (decide (macT key nonce (opT xs) bd = lsT xs)) 0 100))

structure OpsF extends OpsE where
  ec : List Nat → List Nat → List Nat → List Nat → Nat
def opsF : OpsF := { toOpsE := opsE, ec := ecT }
theorem opsF_opsE : opsF.toOpsE = opsE := by kernel_rfl
theorem opsF_ec : opsF.ec = ecT := by kernel_rfl

def X30 (o : OpsF) : FSem := ⟨true, fun args hin => match args, hin with
  | [.agg [.ints .u8 32 key, .ints .u8 12 nonce], .s (.xsl (.ints .u8 xs)), .s (.xsl (.bss pss))], [] =>
    some (Tr.needs [decide (xs.length < 9223372036854775808), decide (pss.length < 9223372036854775808), o.okL pss] (.leaf (.tup [.any, .s (.nat .i64 (o.ec key nonce xs (o.cat pss pss.length)))], [])))
  | _, _ => none⟩

theorem nat_any (k : IntKind) (n : Nat) : ∀ (cx : Cx) (β β' : Bm) (cv : Value), RelV1 cx β (.s (.nat k n)) cv → RelV1 cx β' (.s (.nat k n)) cv := fun _ _ _ _ h => h

theorem xx30 : FOk Try.prog 30 (X30 opsF) := by
  refine ⟨⟨_, _, fn30.at_, fn30.body, fn30.name⟩, ?_⟩
  intro args hin t v hout h hg
  unfold X30 at h
  simp only at h
  split at h
  · rename_i key nonce xs pss
    simp only [Option.some.injEq] at h
    subst h
    obtain ⟨hc, hgt⟩ := Tr.needs_get hg
    cases hgt
    rw [opsF_opsE, opsE_opsC, opsC_okL] at hc
    rw [opsF_ec, opsF_opsE, opsE_opsC, opsC_cat]
    have hcl := catN_len pss pss.length
    have hlon : lonB pss = decide (1048576 < (catN pss pss.length).length) := by rw [hcl]; rfl
    have key1 := ok30.2 [.agg [.ints .u8 32 key, .ints .u8 12 nonce], .s (.xsl (.ints .u8 xs)), .s (.xsl (.bss pss))] [] (Tr.needs [decide (xs.length < 9223372036854775808), decide (pss.length < 9223372036854775808), okLens pss]
      (.br (decide (1048592 < xs.length) || lonB pss) (.leaf (.tup [.s .nil, .s (.nat .i64 2)], []))
        (.br (decide (xs.length < 16)) (.leaf (.tup [.s .nil, .s (.nat .i64 111)], []))
          (.br (decide (macT key nonce (opT xs) (catN pss pss.length) = lsT xs))
            (.leaf (.tup [.s (.sl .whole 0 0 (xs.length - 16) 1), .s (.nat .i64 0)], [some [.ints .u8 (xs.length - 16) (mxT key nonce (opT xs))]]))
            (.leaf (.tup [.s .nil, .s (.nat .i64 100)], []))))))
    unfold ecT
    rw [← hlon]
    have hn : ∀ {t : Tr (AV × List (Option Blk))}, (Tr.needs [decide (xs.length < 9223372036854775808), decide (pss.length < 9223372036854775808), okLens pss] t).get = t.get := fun {t} => Tr.needs_true hc
    cases h1 : (decide (1048592 < xs.length) || lonB pss) with
    | true =>
      show Ctr Try.prog 30 _ [] (.tup [.any, .s (.nat .i64 2)]) []
      refine Ctr.drop (a := .s .nil) (hout := []) (nat_any _ _) (key1 _ _ rfl ?_)
      rw [hn, Tr.get, h1]
      rfl
    | false =>
      cases h2 : decide (xs.length < 16) with
      | true =>
        show Ctr Try.prog 30 _ [] (.tup [.any, .s (.nat .i64 111)]) []
        refine Ctr.drop (a := .s .nil) (hout := []) (nat_any _ _) (key1 _ _ rfl ?_)
        rw [hn, Tr.get, h1, cond_false, Tr.get, h2]
        rfl
      | false =>
        cases h3 : decide (macT key nonce (opT xs) (catN pss pss.length) = lsT xs) with
        | true =>
          show Ctr Try.prog 30 _ [] (.tup [.any, .s (.nat .i64 0)]) []
          refine Ctr.drop (a := .s (.sl .whole 0 0 (xs.length - 16) 1)) (hout := [some [.ints .u8 (xs.length - 16) (mxT key nonce (opT xs))]]) (nat_any _ _) (key1 _ _ rfl ?_)
          rw [hn, Tr.get, h1, cond_false, Tr.get, h2, cond_false, Tr.get, h3]
          rfl
        | false =>
          show Ctr Try.prog 30 _ [] (.tup [.any, .s (.nat .i64 100)]) []
          refine Ctr.drop (a := .s .nil) (hout := []) (nat_any _ _) (key1 _ _ rfl ?_)
          rw [hn, Tr.get, h1, cond_false, Tr.get, h2, cond_false, Tr.get, h3]
          rfl
  · cases h

def X31 (o : OpsF) : FSem := ⟨false, fun args hin => match args, hin with
  | [.agg [.ints .u8 32 key], .agg [.ints .u8 12 nonce], .s (.str s), .s (.str b)], [] =>
    some (Tr.needs [o.b8 key, o.b8 nonce, o.b8 s, o.b8 b, decide (s.length < 4611686018427387904), decide (b.length < 4611686018427387904)] (.leaf (.tup [.any, .s (.nat .i64 (o.ec key nonce s b))], [])))
  | _, _ => none⟩

theorem xx31 : FOk Try.prog 31 (X31 opsF) := by
  refine ⟨⟨_, _, fn31.at_, fn31.body, fn31.name⟩, ?_⟩
  intro args hin t v hout h hg
  unfold X31 at h
  simp only at h
  split at h
  · rename_i key nonce s b
    simp only [Option.some.injEq] at h
    subst h
    obtain ⟨hc, hgt⟩ := Tr.needs_get hg
    cases hgt
    rw [opsF_opsE, opsE_b8] at hc
    rw [opsF_ec]
    have key1 := ok31.2 [.agg [.ints .u8 32 key], .agg [.ints .u8 12 nonce], .s (.str s), .s (.str b)] [] (Tr.needs [b8 key, b8 nonce, b8 s, b8 b, decide (s.length < 4611686018427387904), decide (b.length < 4611686018427387904)]
      (.br (decide (1048592 < s.length) || decide (1048576 < b.length)) (.leaf (.tup [.s (.str []), .s (.nat .i64 2)], []))
        (.br (decide (s.length < 16)) (.leaf (.tup [.s (.str []), .s (.nat .i64 111)], []))
          (.br (decide (macT key nonce (opT s) b = lsT s)) (.leaf (.tup [.s (.str (mxT key nonce (opT s))), .s (.nat .i64 0)], [])) (.leaf (.tup [.s (.str []), .s (.nat .i64 100)], []))))))
    unfold ecT
    have hn : ∀ {t : Tr (AV × List (Option Blk))}, (Tr.needs [b8 key, b8 nonce, b8 s, b8 b, decide (s.length < 4611686018427387904), decide (b.length < 4611686018427387904)] t).get = t.get := fun {t} => Tr.needs_true hc
    cases h1 : (decide (1048592 < s.length) || decide (1048576 < b.length)) with
    | true =>
      show Ctr Try.prog 31 _ [] (.tup [.any, .s (.nat .i64 2)]) []
      refine Ctr.drop (a := .s (.str [])) (hout := []) (nat_any _ _) (key1 _ _ rfl ?_)
      rw [hn, Tr.get, h1]
      rfl
    | false =>
      cases h2 : decide (s.length < 16) with
      | true =>
        show Ctr Try.prog 31 _ [] (.tup [.any, .s (.nat .i64 111)]) []
        refine Ctr.drop (a := .s (.str [])) (hout := []) (nat_any _ _) (key1 _ _ rfl ?_)
        rw [hn, Tr.get, h1, cond_false, Tr.get, h2]
        rfl
      | false =>
        cases h3 : decide (macT key nonce (opT s) b = lsT s) with
        | true =>
          show Ctr Try.prog 31 _ [] (.tup [.any, .s (.nat .i64 0)]) []
          refine Ctr.drop (a := .s (.str (mxT key nonce (opT s)))) (hout := []) (nat_any _ _) (key1 _ _ rfl ?_)
          rw [hn, Tr.get, h1, cond_false, Tr.get, h2, cond_false, Tr.get, h3]
          rfl
        | false =>
          show Ctr Try.prog 31 _ [] (.tup [.any, .s (.nat .i64 100)]) []
          refine Ctr.drop (a := .s (.str [])) (hout := []) (nat_any _ _) (key1 _ _ rfl ?_)
          rw [hn, Tr.get, h1, cond_false, Tr.get, h2, cond_false, Tr.get, h3]
          rfl
  · cases h

def envF' (o : OpsF) : List (Nat × FSem) := [(30, X30 o), (31, X31 o), (27, F27), (28, Z28 o.toOpsC)]
theorem envF'_ok : EnvOk ⟨Try.prog, envF' opsF, []⟩ := .cons xx30 (.cons xx31 (.cons ok27 (.cons (by rw [opsF_opsE, opsE_opsC]; exact zz28) .nil)))

end Go.Proofs.Ytgebgjhjegadpaa

namespace Go.Proofs.Ytgebgjhjegadpaa
open Go

set_option maxRecDepth 100000 in
theorem r18 (o : OpsF) (key nonce xs bs : List Nat) : runB Try.prog (envF' o) [] .nat 7 Try.f18 [.agg [.ints .u8 32 key, .ints .u8 12 nonce], .s (.xsl (.ints .u8 xs)), .s (.xsl (.ints .u8 bs))] [] =
(nd [decide (xs.length < 9223372036854775808), decide (min xs.length 200 < 9223372036854775808), decide (min xs.length 200 ≤ xs.length), decide (bs.length < 9223372036854775808), decide (min bs.length 100 < 9223372036854775808), decide (min bs.length 100 ≤ bs.length), decide ((List.take (min xs.length 200) xs).length < 9223372036854775808), o.okL [List.take (min bs.length 100) bs]]
 (cond (o.lg (List.take (min xs.length 200) xs) [List.take (min bs.length 100) bs])
 (some (AV.s (SV.bool false), []))
 (nd [decide (0 + (List.take (min bs.length 100) bs).length ≤ 4398046511104), decide (0 + (List.take (min bs.length 100) bs).length = 0 + (List.take (min bs.length 100) bs).length), decide (0 + (List.take (min bs.length 100) bs).length + 1 ≤ 4398046511104), decide ((List.take (min xs.length 200) xs).length + 16 = (List.take (min xs.length 200) xs).length + 16), decide ((o.sl key nonce (List.take (min xs.length 200) xs) (o.cat [List.take (min bs.length 100) bs] 1)).length < 9223372036854775808), o.okL [List.take (min bs.length 100) bs], decide ((List.take (min xs.length 200) xs).length + 16 = (List.take (min xs.length 200) xs).length + 16), o.b8 (key.set 0 ((key.getD 0 0 + 1) % 256)), o.b8 nonce, o.b8 (o.sl key nonce (List.take (min xs.length 200) xs) (o.cat [List.take (min bs.length 100) bs] 1)), o.b8 (List.take (min bs.length 100) bs), decide ((o.sl key nonce (List.take (min xs.length 200) xs) (o.cat [List.take (min bs.length 100) bs] 1)).length < 4611686018427387904), decide ((List.take (min bs.length 100) bs).length < 4611686018427387904)]
 (cond (!decide (o.ec (key.set 0 ((key.getD 0 0 + 1) % 256)) nonce (o.sl key nonce (List.take (min xs.length 200) xs) (o.cat [List.take (min bs.length 100) bs] 1)) (o.cat [List.take (min bs.length 100) bs] 1) = o.ec (key.set 0 ((key.getD 0 0 + 1) % 256)) nonce (o.sl key nonce (List.take (min xs.length 200) xs) (o.cat [List.take (min bs.length 100) bs] 1)) (List.take (min bs.length 100) bs)))
 (some (AV.s (SV.bool false), []))
 (nd [decide ((List.take (min xs.length 200) xs).length + 16 = (List.take (min xs.length 200) xs).length + 16), decide ((o.sl key nonce (List.take (min xs.length 200) xs) (o.cat [List.take (min bs.length 100) bs] 1)).length < 9223372036854775808), o.okL [List.take (min bs.length 100) bs], decide ((List.take (min xs.length 200) xs).length + 16 = (List.take (min xs.length 200) xs).length + 16), o.b8 key, o.b8 (nonce.set 0 ((nonce.getD 0 0 + 1) % 256)), o.b8 (o.sl key nonce (List.take (min xs.length 200) xs) (o.cat [List.take (min bs.length 100) bs] 1)), o.b8 (List.take (min bs.length 100) bs), decide ((o.sl key nonce (List.take (min xs.length 200) xs) (o.cat [List.take (min bs.length 100) bs] 1)).length < 4611686018427387904), decide ((List.take (min bs.length 100) bs).length < 4611686018427387904)]
 (cond (!decide (o.ec key (nonce.set 0 ((nonce.getD 0 0 + 1) % 256)) (o.sl key nonce (List.take (min xs.length 200) xs) (o.cat [List.take (min bs.length 100) bs] 1)) (o.cat [List.take (min bs.length 100) bs] 1) = o.ec key (nonce.set 0 ((nonce.getD 0 0 + 1) % 256)) (o.sl key nonce (List.take (min xs.length 200) xs) (o.cat [List.take (min bs.length 100) bs] 1)) (List.take (min bs.length 100) bs)))
 (some (AV.s (SV.bool false), []))
 (nd [decide ((List.take (min xs.length 200) xs).length + 16 = (List.take (min xs.length 200) xs).length + 16), decide (0 + (List.take (min bs.length 100) bs).length + 1 = 0 + (List.take (min bs.length 100) bs).length + 1), decide ((o.sl key nonce (List.take (min xs.length 200) xs) (o.cat [List.take (min bs.length 100) bs] 1)).length < 9223372036854775808), o.okL [List.take (min bs.length 100) bs ++ [0]], decide ((List.take (min xs.length 200) xs).length + 16 = (List.take (min xs.length 200) xs).length + 16), decide (0 + (List.take (min bs.length 100) bs).length + 1 = 0 + (List.take (min bs.length 100) bs).length + 1), o.b8 key, o.b8 nonce, o.b8 (o.sl key nonce (List.take (min xs.length 200) xs) (o.cat [List.take (min bs.length 100) bs] 1)), o.b8 (List.take (min bs.length 100) bs ++ [0]), decide ((o.sl key nonce (List.take (min xs.length 200) xs) (o.cat [List.take (min bs.length 100) bs] 1)).length < 4611686018427387904), decide ((List.take (min bs.length 100) bs ++ [0]).length < 4611686018427387904)]
 (some (AV.s (SV.bool (decide (o.ec key nonce (o.sl key nonce (List.take (min xs.length 200) xs) (o.cat [List.take (min bs.length 100) bs] 1)) (o.cat [List.take (min bs.length 100) bs ++ [0]] 1) = o.ec key nonce (o.sl key nonce (List.take (min xs.length 200) xs) (o.cat [List.take (min bs.length 100) bs] 1)) (List.take (min bs.length 100) bs ++ [0])))), []))))))))) := by kernel_rfl

theorem b8_set {l : List Nat} (h : b8 l = true) (i v : Nat) (hv : v < 256) : b8 (l.set i v) = true := allB_mem fun x hx => by
  rcases List.mem_or_eq_of_mem_set hx with h1 | h1
  · exact of_decide_eq_true (List.all_eq_true.1 h x h1)
  · rw [h1]; exact hv

theorem fts_mem : ∀ (n : Nat) (x key : List Nat) (i : Nat), ∀ y ∈ fts x key n i, y < 256
  | 0, _, _, _, y, h => by cases h
  | n + 1, x, key, i, y, h => by
    rcases List.mem_cons.1 h with rfl | h
    · unfold ft
      exact Nat.mod_lt _ (by decide)
    · exact fts_mem n x key (i + 1) y h

theorem b8_mac (key nonce xs bd : List Nat) : b8 (macT key nonce xs bd) = true := allB_mem (fts_mem 16 _ _ 0)

theorem b8_sl {key nonce xs bd : List Nat} (h : b8 xs = true) : b8 (slT key nonce xs bd) = true := b8_app (b8_mx h) (b8_mac _ _ _ _)

theorem ctr18 {key nonce xs bs : List Nat} (k1 : ∀ x ∈ key, x < 256) (k2 : ∀ x ∈ nonce, x < 256) (k3 : ∀ x ∈ xs, x < 256) (k4 : ∀ x ∈ bs, x < 256) (h1 : xs.length < 9223372036854775808) (h2 : bs.length < 9223372036854775808) :
    Ctr Try.prog 18 [.agg [.ints .u8 32 key, .ints .u8 12 nonce], .s (.xsl (.ints .u8 xs)), .s (.xsl (.ints .u8 bs))] [] (.s (.bool true)) [] := by
  refine ctrB (fs := envF' opsF) (xs := []) (m := .nat) (fuel := 7) envF'_ok fn18 ?_
  have hX := take_min xs 200
  have hB := take_min bs 100
  have k3' := b8_take (b8_mem k3) (min xs.length 200)
  have k4' := b8_take (b8_mem k4) (min bs.length 100)
  have kk := b8_mem k1
  have kn := b8_mem k2
  rw [r18, opsF_opsE, opsE_opsC, opsC_sl, opsC_okL, opsC_cat, opsE_b8]
  generalize hx : List.take (min xs.length 200) xs = X at *
  generalize hb : List.take (min bs.length 100) bs = B at *
  rw [catN_1, catN_1, slT_len]
  have hl1 := lenN_1 B
  have o1 : okLens [B] = true := okL_1 (by omega)
  have o2 : okLens [B ++ [0]] = true := okL_1 (by rw [List.length_append]; simp; omega)
  have g1 : opsC.lg X [B] = false := lg_small (by omega) (by show lenN [B] 1 ≤ _; omega)
  have s8 : ∀ k n, b8 (slT k n X B) = true := fun k n => b8_sl k3'
  have s9 : b8 (B ++ [0]) = true := b8_app k4' (by decide)
  have hB1 : (B ++ [0]).length = B.length + 1 := by rw [List.length_append]; rfl
  have q1 := b8_set kk 0 ((key.getD 0 0 + 1) % 256) (Nat.mod_lt _ (by decide))
  have q2 := b8_set kn 0 ((nonce.getD 0 0 + 1) % 256) (Nat.mod_lt _ (by decide))
  refine nd_of ?_ (cond_f g1 (nd_of ?_ (cond_f (by rw [decide_eq_true rfl]; rfl) (nd_of ?_ (cond_f (by rw [decide_eq_true rfl]; rfl) (nd_of ?_ ?_))))))
  · simp only [List.mem_cons, List.not_mem_nil, or_false, forall_eq_or_imp, forall_eq, decide_eq_true_eq]
    exact ⟨h1, by omega, by omega, h2, by omega, by omega, by omega, o1⟩
  · simp only [List.mem_cons, List.not_mem_nil, or_false, forall_eq_or_imp, forall_eq, decide_eq_true_eq]
    exact ⟨by omega, trivial, by omega, trivial, by omega, o1, trivial, q1, kn, s8 _ _, k4', by omega, by omega⟩
  · simp only [List.mem_cons, List.not_mem_nil, or_false, forall_eq_or_imp, forall_eq, decide_eq_true_eq]
    exact ⟨trivial, by omega, o1, trivial, kk, q2, s8 _ _, k4', by omega, by omega⟩
  · simp only [List.mem_cons, List.not_mem_nil, or_false, forall_eq_or_imp, forall_eq, decide_eq_true_eq, hB1]
    exact ⟨trivial, trivial, by omega, o2, trivial, trivial, kk, kn, s8 _ _, s9, by omega, by omega⟩
  · rw [decide_eq_true rfl]

end Go.Proofs.Ytgebgjhjegadpaa

namespace Go.Proofs.Ytgebgjhjegadpaa
open Go Go.ChangeShapes Go.WideShapes Go.ChangeAt Go.Deep

theorem addr_add_eq (a : Addr) (h : (a.add 0).spot = none) : a.spot = none := by
  unfold Addr.add at h
  rw [if_pos rfl] at h
  exact h

theorem cell_spot {W : World} {a : Addr} {v : Value} (h : W.cell? a = some v) : a.spot = none := by
  unfold World.cell? at h
  split at h
  · split at h
    · cases h
    · rename_i hs
      cases hq : a.spot with
      | none => rfl
      | some s => rw [hq] at hs; exact absurd rfl hs
  · cases h

section
variable {H : Type} {enc : TypeId × Value → H} {P : Program} {W : World} {base : Nat} {held : Bool} {r : Reach} {b0 : Nat} {t e q : TypeId} {v : Value} {d : DataW H} {ps : List MemPlace}

/-- One row. -/
theorem row_RelXI {A : Option Addr} {L C : Nat} {Z : List Int} (h1 : L ≤ C) (hz : Z.length = C) (hw : ∀ n ∈ Z, (Lit.int .u8 n).wf = true) (hn : A = none → C = 0)
    (hc : ∀ a', A = some a' → ∀ c, c < C → W.cell? (a'.add c) = some (.int .u8 (Z.getD c 0))) : RelXI (now W (allX W)) .u8 ((Z.take L).map Int.toNat) (.slice A L C) := by
  by_cases hL : L = 0
  · subst hL
    exact .inl ⟨by simp, A, C, rfl⟩
  · obtain ⟨a', ha⟩ : ∃ a', A = some a' := by
      cases hA : A with
      | none => have := hn hA; omega
      | some a' => exact ⟨a', rfl⟩
    have hcc := hc a' ha
    have h0 := cell_spot (hcc 0 (by omega))
    have hsp := addr_add_eq a' h0
    obtain ⟨b', o', sp⟩ := a'
    simp only at hsp
    subst hsp
    subst ha
    have hlen : ((Z.take L).map Int.toNat).length = L := by simp; omega
    refine .inr ⟨b', o', C, by rw [hlen], by rw [hlen]; exact h1, fun i x e => ?_⟩
    rw [List.getElem?_map, Option.map_eq_some_iff] at e
    obtain ⟨z, hz', rfl⟩ := e
    have hi : i < L := by have := (List.getElem?_eq_some_iff.1 hz').1; simp at this; omega
    rw [List.getElem?_take_of_lt hi] at hz'
    obtain ⟨g1, g2⟩ := wf_u (k := .u8) rfl (hw z (List.mem_of_getElem? hz'))
    have := hcc i (by omega)
    rw [addr_add, List.getD, hz', Option.getD_some] at this
    refine ⟨cell_lt this, ?_, g2⟩
    rw [Int.toNat_of_nonneg g1]
    exact this

/-- What the datum of a slice of slices says of their lengths. -/
def Rowsd (xss : List (List Nat)) (d : DataW H) : Prop :=
  xss = [] ∨ ∃ elems spare, d = .slice elems spare ∧ elems.length = xss.length ∧ ∀ (i : Nat) (xs : List Nat), xss[i]? = some xs → xs = [] ∨ ∃ es sp, elems[i]? = some (.slice es sp) ∧ es.length = xs.length

theorem open_rowsV (ht : P.underlying t = some (.slice e)) (he : P.underlying e = some (.slice q)) (hq : P.underlying q = some (.int .u8)) (ce : P.cellsOf e = 1) (cq : P.cellsOf q = 1)
    (hval : Value.okWide P W r b0 t v) (hd : DataW.Trod enc P W base (fun _ => true) held t v d ps) :
    ∃ xss : List (List Nat), xss.length ≤ 9223372036854775807 ∧ (∀ xs ∈ xss, xs.length ≤ 9223372036854775807 ∧ ∀ x ∈ xs, x < 256) ∧ RelX (now W (allX W)) (.bss xss) v ∧ Rowsd xss d := by
  obtain ⟨fuel, hd⟩ := hd
  have hok := hval
  simp only [Value.okWide, ht, Cell.okWide, Cell.ok] at hok
  have hcell : v.cells.toList = [v] := by
    cases v <;> simp_all [Value.cells]
  rw [hcell] at hd
  rcases open_int_rows ht he hq ce cq hd with ⟨h1, _⟩ | ⟨a, len, cap, A, L, C, Z, h1, _, h2, h3, hx, h6⟩
  · simp only [List.cons.injEq, and_true] at h1
    subst h1
    exact ⟨[], by simp, by simp, .inl ⟨rfl, _, _, rfl⟩, .inl rfl⟩
  · simp only [List.cons.injEq, and_true] at h1
    subst h1
    simp only [World.has] at hok
    obtain ⟨_, _, _, hspot, _⟩ := hok
    obtain ⟨b, o, sp⟩ := a
    simp only at hspot
    subst hspot
    have hl : ((List.range len).map fun j => ((Z j).take (L j)).map Int.toNat).length = len := by simp
    refine ⟨(List.range len).map fun j => ((Z j).take (L j)).map Int.toNat, by rw [hl]; simp [maxLen] at h3; omega, fun xs hm => ?_, .inr ⟨b, o, cap, by simp [XC.len], by simp [XC.len]; omega, fun i xs e => ?_⟩, ?_⟩
    · obtain ⟨j, hj, rfl⟩ := List.mem_map.1 hm
      have hj := List.mem_range.1 hj
      obtain ⟨_, g1, g2, g3, g4, _, _⟩ := h6 j (by omega)
      refine ⟨by simp [maxLen] at g2 ⊢; omega, fun x hx' => ?_⟩
      obtain ⟨z, hz, rfl⟩ := List.mem_map.1 hx'
      exact (wf_u (k := .u8) rfl (g4 z (List.mem_of_mem_take hz))).2
    · rw [List.getElem?_map, Option.map_eq_some_iff] at e
      obtain ⟨j, hj, rfl⟩ := e
      have hi : i < len := by have := (List.getElem?_eq_some_iff.1 hj).1; simpa using this
      rw [List.getElem?_range hi] at hj
      cases hj
      obtain ⟨g0, g1, g2, g3, g4, g5, g6⟩ := h6 i (by omega)
      rw [addr_add] at g0
      exact ⟨cell_lt g0, _, g0, row_RelXI g1 g3 g4 g5 fun a' ha => (g6 a' ha).2⟩
    · simp only [Prod.mk.injEq] at hx
      refine .inr ⟨_, _, hx.1, by simp, fun i xs e => ?_⟩
      rw [List.getElem?_map, Option.map_eq_some_iff] at e
      obtain ⟨j, hj, rfl⟩ := e
      have hi : i < len := by have := (List.getElem?_eq_some_iff.1 hj).1; simpa using this
      have hj' := hj
      rw [List.getElem?_range hi] at hj
      cases hj
      obtain ⟨g0, g1, g2, g3, g4, g5, g6⟩ := h6 i (by omega)
      cases hA : A i with
      | none =>
        have := g5 hA
        left
        have e0 : L i = 0 := by omega
        simp [e0]
      | some a' =>
        right
        have hrow : intRow (H := H) .u8 (A i) (L i) (Z i) = .slice (lits .u8 ((Z i).take (L i))) (lits .u8 ((Z i).drop (L i))) := by
          rw [hA]
          rfl
        exact ⟨lits .u8 ((Z i).take (L i)), lits .u8 ((Z i).drop (L i)), by rw [List.getElem?_map, hj', Option.map_some, hrow], by simp [lits]⟩

end
end Go.Proofs.Ytgebgjhjegadpaa

namespace Go.Proofs.Ytgebgjhjegadpaa
open Go

theorem fn4 : Fn Try.prog 4 Try.f4 := ⟨mixed, Try.func4, by kernel_rfl, of_decide_eq_true (by kernel_rfl)⟩

/-- A part, cut. -/
def tk (ps : List (List Nat)) (i : Nat) : List Nat := List.take (min (ps.getD i []).length 200) (ps.getD i [])

def chO (xs : List (List Nat)) : Blk := xs.map fun x => Ch.one (.xsl (.ints .u8 x))

/-- The first i parts, cut. -/
def ownN (ps : List (List Nat)) : Nat → List (List Nat)
  | 0 => []
  | i + 1 => ownN ps i ++ [tk ps i]

def allN (ps : List (List Nat)) : Nat → List Nat
  | 0 => []
  | i + 1 => allN ps i ++ tk ps i

def outQ (ps : List (List Nat)) (k : Nat) : Tr (Ex × List AV × List (Option Blk)) :=
  .leaf (.normal, [.s (.sl .whole 0 0 k 1), .s (.str (allN ps k))], [some (chO (ownN ps k))])

def SqM : LSem := ⟨[17, 18, 19, 7, 8], [7, 8], fun args hin => match args, hin with
  | [.s (.xsl (.bss ps)), .s (.nat .i64 n), .s (.nat .i64 0), .s .nil, .s (.str [])], [] =>
    some (Tr.needs [decide (n = ps.length), decide (n < 9223372036854775808), okLens ps]
      (.br (decide (n = 0)) (.leaf (.normal, [.s .nil, .s (.str [])], []))
      (.br (decide (n = 1)) (outQ ps 1)
      (.br (decide (n = 2)) (outQ ps 2)
      (.br (decide (n = 3)) (outQ ps 3)
      (.br (decide (n = 4)) (outQ ps 4)
      (.br (decide (n = 5)) (outQ ps 5) (outQ ps 6))))))))
  | _, _ => none⟩

def ndq (ps : List (List Nat)) (k l : Nat) : List Bool := [decide (k < ps.length), decide (k < ps.length), decide ((ps.getD k []).length < 9223372036854775808), decide (min (ps.getD k []).length 200 < 9223372036854775808), decide (min (ps.getD k []).length 200 ≤ (ps.getD k []).length), decide (l + (tk ps k).length < 9223372036854775808)]

set_option maxRecDepth 100000 in
theorem rq0 (ps : List (List Nat)) (n : Nat) : runR Try.prog [] [] .nat 7 [] Try.f4 0 SqM 0 [.s (.xsl (.bss ps)), .s (.nat .i64 n), .s (.nat .i64 0), .s .nil, .s (.str [])] [] =
(cond (decide (0 < n))
 (nd (ndq ps 0 0)
 (some (Ex.normal, [.s (.xsl (.bss ps)), .s (.nat .i64 n), .s (.nat .i64 1), .s (.sl .whole 0 0 1 1), .s (.str (tk ps 0))], [some [.one (.xsl (.ints .u8 (tk ps 0)))]])))
 (some (Ex.exit 0, [.s .nil, .s (.str [])], []))) := by kernel_rfl

set_option maxRecDepth 100000 in
theorem rq1 (ps : List (List Nat)) (n : Nat) (s a0 : List Nat) : runR Try.prog [] [] .nat 7 [] Try.f4 0 SqM 0 [.s (.xsl (.bss ps)), .s (.nat .i64 n), .s (.nat .i64 1), .s (.sl .whole 0 0 1 1), .s (.str s)] [some [.one (.xsl (.ints .u8 a0))]] =
(cond (decide (1 < n))
 (nd (ndq ps 1 s.length)
 (some (Ex.normal, [.s (.xsl (.bss ps)), .s (.nat .i64 n), .s (.nat .i64 2), .s (.sl .whole 0 0 2 1), .s (.str (s ++ tk ps 1))], [some [.one (.xsl (.ints .u8 a0)), .one (.xsl (.ints .u8 (tk ps 1)))]])))
 (some (Ex.exit 0, [.s (.sl .whole 0 0 1 1), .s (.str s)], [some [.one (.xsl (.ints .u8 a0))]]))) := by kernel_rfl

set_option maxRecDepth 100000 in
theorem rq2 (ps : List (List Nat)) (n : Nat) (s a0 a1 : List Nat) : runR Try.prog [] [] .nat 7 [] Try.f4 0 SqM 0 [.s (.xsl (.bss ps)), .s (.nat .i64 n), .s (.nat .i64 2), .s (.sl .whole 0 0 2 1), .s (.str s)] [some [.one (.xsl (.ints .u8 a0)), .one (.xsl (.ints .u8 a1))]] =
(cond (decide (2 < n))
 (nd (ndq ps 2 s.length)
 (some (Ex.normal, [.s (.xsl (.bss ps)), .s (.nat .i64 n), .s (.nat .i64 3), .s (.sl .whole 0 0 3 1), .s (.str (s ++ tk ps 2))], [some [.one (.xsl (.ints .u8 a0)), .one (.xsl (.ints .u8 a1)), .one (.xsl (.ints .u8 (tk ps 2)))]])))
 (some (Ex.exit 0, [.s (.sl .whole 0 0 2 1), .s (.str s)], [some [.one (.xsl (.ints .u8 a0)), .one (.xsl (.ints .u8 a1))]]))) := by kernel_rfl

set_option maxRecDepth 100000 in
theorem rq3 (ps : List (List Nat)) (n : Nat) (s a0 a1 a2 : List Nat) : runR Try.prog [] [] .nat 7 [] Try.f4 0 SqM 0 [.s (.xsl (.bss ps)), .s (.nat .i64 n), .s (.nat .i64 3), .s (.sl .whole 0 0 3 1), .s (.str s)] [some [.one (.xsl (.ints .u8 a0)), .one (.xsl (.ints .u8 a1)), .one (.xsl (.ints .u8 a2))]] =
(cond (decide (3 < n))
 (nd (ndq ps 3 s.length)
 (some (Ex.normal, [.s (.xsl (.bss ps)), .s (.nat .i64 n), .s (.nat .i64 4), .s (.sl .whole 0 0 4 1), .s (.str (s ++ tk ps 3))], [some [.one (.xsl (.ints .u8 a0)), .one (.xsl (.ints .u8 a1)), .one (.xsl (.ints .u8 a2)), .one (.xsl (.ints .u8 (tk ps 3)))]])))
 (some (Ex.exit 0, [.s (.sl .whole 0 0 3 1), .s (.str s)], [some [.one (.xsl (.ints .u8 a0)), .one (.xsl (.ints .u8 a1)), .one (.xsl (.ints .u8 a2))]]))) := by kernel_rfl

set_option maxRecDepth 100000 in
theorem rq4 (ps : List (List Nat)) (n : Nat) (s a0 a1 a2 a3 : List Nat) : runR Try.prog [] [] .nat 7 [] Try.f4 0 SqM 0 [.s (.xsl (.bss ps)), .s (.nat .i64 n), .s (.nat .i64 4), .s (.sl .whole 0 0 4 1), .s (.str s)] [some [.one (.xsl (.ints .u8 a0)), .one (.xsl (.ints .u8 a1)), .one (.xsl (.ints .u8 a2)), .one (.xsl (.ints .u8 a3))]] =
(cond (decide (4 < n))
 (nd (ndq ps 4 s.length)
 (some (Ex.normal, [.s (.xsl (.bss ps)), .s (.nat .i64 n), .s (.nat .i64 5), .s (.sl .whole 0 0 5 1), .s (.str (s ++ tk ps 4))], [some [.one (.xsl (.ints .u8 a0)), .one (.xsl (.ints .u8 a1)), .one (.xsl (.ints .u8 a2)), .one (.xsl (.ints .u8 a3)), .one (.xsl (.ints .u8 (tk ps 4)))]])))
 (some (Ex.exit 0, [.s (.sl .whole 0 0 4 1), .s (.str s)], [some [.one (.xsl (.ints .u8 a0)), .one (.xsl (.ints .u8 a1)), .one (.xsl (.ints .u8 a2)), .one (.xsl (.ints .u8 a3))]]))) := by kernel_rfl

set_option maxRecDepth 100000 in
theorem rq5 (ps : List (List Nat)) (n : Nat) (s a0 a1 a2 a3 a4 : List Nat) : runR Try.prog [] [] .nat 7 [] Try.f4 0 SqM 0 [.s (.xsl (.bss ps)), .s (.nat .i64 n), .s (.nat .i64 5), .s (.sl .whole 0 0 5 1), .s (.str s)] [some [.one (.xsl (.ints .u8 a0)), .one (.xsl (.ints .u8 a1)), .one (.xsl (.ints .u8 a2)), .one (.xsl (.ints .u8 a3)), .one (.xsl (.ints .u8 a4))]] =
(cond (decide (5 < n))
 (nd (ndq ps 5 s.length)
 (some (Ex.normal, [.s (.xsl (.bss ps)), .s (.nat .i64 n), .s (.nat .i64 6), .s (.sl .whole 0 0 6 1), .s (.str (s ++ tk ps 5))], [some [.one (.xsl (.ints .u8 a0)), .one (.xsl (.ints .u8 a1)), .one (.xsl (.ints .u8 a2)), .one (.xsl (.ints .u8 a3)), .one (.xsl (.ints .u8 a4)), .one (.xsl (.ints .u8 (tk ps 5)))]])))
 (some (Ex.exit 0, [.s (.sl .whole 0 0 5 1), .s (.str s)], [some [.one (.xsl (.ints .u8 a0)), .one (.xsl (.ints .u8 a1)), .one (.xsl (.ints .u8 a2)), .one (.xsl (.ints .u8 a3)), .one (.xsl (.ints .u8 a4))]]))) := by kernel_rfl

set_option maxRecDepth 100000 in
theorem rq6 (ps : List (List Nat)) (n i : Nat) (s a0 a1 a2 a3 a4 a5 : List Nat) : runR Try.prog [] [] .nat 7 [] Try.f4 0 SqM 0 [.s (.xsl (.bss ps)), .s (.nat .i64 n), .s (.nat .i64 (i + 6)), .s (.sl .whole 0 0 6 1), .s (.str s)] [some [.one (.xsl (.ints .u8 a0)), .one (.xsl (.ints .u8 a1)), .one (.xsl (.ints .u8 a2)), .one (.xsl (.ints .u8 a3)), .one (.xsl (.ints .u8 a4)), .one (.xsl (.ints .u8 a5))]] =
(cond (decide (i + 6 < n))
 (nd [decide (i + 6 < ps.length), decide (i + 6 < ps.length), decide (i + 6 + 1 < 9223372036854775808)]
 (some (Ex.normal, [.s (.xsl (.bss ps)), .s (.nat .i64 n), .s (.nat .i64 (i + 6 + 1)), .s (.sl .whole 0 0 6 1), .s (.str s)], [some [.one (.xsl (.ints .u8 a0)), .one (.xsl (.ints .u8 a1)), .one (.xsl (.ints .u8 a2)), .one (.xsl (.ints .u8 a3)), .one (.xsl (.ints .u8 a4)), .one (.xsl (.ints .u8 a5))]])))
 (some (Ex.exit 0, [.s (.sl .whole 0 0 6 1), .s (.str s)], [some [.one (.xsl (.ints .u8 a0)), .one (.xsl (.ints .u8 a1)), .one (.xsl (.ints .u8 a2)), .one (.xsl (.ints .u8 a3)), .one (.xsl (.ints .u8 a4)), .one (.xsl (.ints .u8 a5))]]))) := by kernel_rfl

def AQ (ps : List (List Nat)) : Nat → List AV × List (Option Blk)
  | 0 => ([.s (.xsl (.bss ps)), .s (.nat .i64 ps.length), .s (.nat .i64 0), .s .nil, .s (.str [])], [])
  | 1 => ([.s (.xsl (.bss ps)), .s (.nat .i64 ps.length), .s (.nat .i64 1), .s (.sl .whole 0 0 1 1), .s (.str (allN ps 1))], [some (chO (ownN ps 1))])
  | 2 => ([.s (.xsl (.bss ps)), .s (.nat .i64 ps.length), .s (.nat .i64 2), .s (.sl .whole 0 0 2 1), .s (.str (allN ps 2))], [some (chO (ownN ps 2))])
  | 3 => ([.s (.xsl (.bss ps)), .s (.nat .i64 ps.length), .s (.nat .i64 3), .s (.sl .whole 0 0 3 1), .s (.str (allN ps 3))], [some (chO (ownN ps 3))])
  | 4 => ([.s (.xsl (.bss ps)), .s (.nat .i64 ps.length), .s (.nat .i64 4), .s (.sl .whole 0 0 4 1), .s (.str (allN ps 4))], [some (chO (ownN ps 4))])
  | 5 => ([.s (.xsl (.bss ps)), .s (.nat .i64 ps.length), .s (.nat .i64 5), .s (.sl .whole 0 0 5 1), .s (.str (allN ps 5))], [some (chO (ownN ps 5))])
  | i + 6 => ([.s (.xsl (.bss ps)), .s (.nat .i64 ps.length), .s (.nat .i64 (i + 6)), .s (.sl .whole 0 0 6 1), .s (.str (allN ps 6))], [some (chO (ownN ps 6))])

theorem tk_len (ps : List (List Nat)) (i : Nat) : (tk ps i).length ≤ 200 := take_min _ _
theorem allN_len (ps : List (List Nat)) : ∀ i, (allN ps i).length ≤ 200 * i
  | 0 => Nat.le_refl _
  | i + 1 => by
    have := allN_len ps i
    have := tk_len ps i
    rw [allN, List.length_append]
    omega

theorem ndq_ok {ps : List (List Nat)} (hk : okLens ps = true) {k l : Nat} (h : k < ps.length) (hl : l ≤ 1200) : ∀ b ∈ ndq ps k l, b = true := by
  have h1 := okLens_get hk k
  have h2 := tk_len ps k
  unfold ndq
  simp only [List.mem_cons, List.not_mem_nil, or_false, forall_eq_or_imp, forall_eq, decide_eq_true_eq]
  omega

theorem stepQ {ps : List (List Nat)} (hl : ps.length < 9223372036854775808) (hk : okLens ps = true) (i : Nat) (hi : i < ps.length) :
    runR Try.prog [] [] .nat 7 [] Try.f4 0 SqM 0 (AQ ps i).1 (AQ ps i).2 = some (.normal, AQ ps (i + 1)) := by
  match i, hi with
  | 0, hi => exact (rq0 ps ps.length).trans (cond_t (decide_eq_true hi) (nd_of (ndq_ok hk hi (by omega)) rfl))
  | 1, hi => exact (rq1 ps ps.length (allN ps 1) (tk ps 0)).trans (cond_t (decide_eq_true hi) (nd_of (ndq_ok hk hi (by have := allN_len ps 1; omega)) rfl))
  | 2, hi => exact (rq2 ps ps.length (allN ps 2) (tk ps 0) (tk ps 1)).trans (cond_t (decide_eq_true hi) (nd_of (ndq_ok hk hi (by have := allN_len ps 2; omega)) rfl))
  | 3, hi => exact (rq3 ps ps.length (allN ps 3) (tk ps 0) (tk ps 1) (tk ps 2)).trans (cond_t (decide_eq_true hi) (nd_of (ndq_ok hk hi (by have := allN_len ps 3; omega)) rfl))
  | 4, hi => exact (rq4 ps ps.length (allN ps 4) (tk ps 0) (tk ps 1) (tk ps 2) (tk ps 3)).trans (cond_t (decide_eq_true hi) (nd_of (ndq_ok hk hi (by have := allN_len ps 4; omega)) rfl))
  | 5, hi => exact (rq5 ps ps.length (allN ps 5) (tk ps 0) (tk ps 1) (tk ps 2) (tk ps 3) (tk ps 4)).trans (cond_t (decide_eq_true hi) (nd_of (ndq_ok hk hi (by have := allN_len ps 5; omega)) rfl))
  | i + 6, hi =>
    refine (rq6 ps ps.length i (allN ps 6) (tk ps 0) (tk ps 1) (tk ps 2) (tk ps 3) (tk ps 4) (tk ps 5)).trans (cond_t (decide_eq_true hi) (nd_of ?_ rfl))
    simp only [List.mem_cons, List.not_mem_nil, or_false, forall_eq_or_imp, forall_eq, decide_eq_true_eq]
    omega

theorem lokQ : LOk Try.prog Try.f4.ntmps (.block 0 (.loop (lb 0 Try.f4))) SqM := by
  refine lokR (fs := []) (xs := []) (m := .nat) (fuel := 7) (sums := []) EnvOk.nil mixed (loopsOk_none rfl _) ?_
  intro args hin t e vs hout h hg
  unfold SqM at h
  simp only at h
  split at h
  rotate_left
  · cases h
  rename_i ps n
  simp only [Option.some.injEq] at h
  subst h
  obtain ⟨hc, hgt⟩ := Tr.needs_get hg
  clear hg
  simp only [List.mem_cons, List.not_mem_nil, or_false, forall_eq_or_imp, forall_eq, decide_eq_true_eq] at hc
  obtain ⟨e1, hl, hk⟩ := hc
  subst e1
  simp only [Tr.get] at hgt
  have hstep := fun i hi => stepQ hl hk i hi
  by_cases n0 : ps.length = 0
  · rw [decide_eq_true n0, cond_true] at hgt
    cases hgt
    refine ⟨ps.length, AQ ps, .exit 0, rfl, hstep, ?_, rfl⟩
    rw [n0]
    exact (rq0 ps ps.length).trans (cond_f (decide_eq_false (by omega)) rfl)
  rw [decide_eq_false n0, cond_false] at hgt
  by_cases n1 : ps.length = 1
  · rw [decide_eq_true n1, cond_true] at hgt
    cases hgt
    refine ⟨ps.length, AQ ps, .exit 0, rfl, hstep, ?_, rfl⟩
    rw [n1]
    exact (rq1 ps ps.length (allN ps 1) (tk ps 0)).trans (cond_f (decide_eq_false (by omega)) rfl)
  rw [decide_eq_false n1, cond_false] at hgt
  by_cases n2 : ps.length = 2
  · rw [decide_eq_true n2, cond_true] at hgt
    cases hgt
    refine ⟨ps.length, AQ ps, .exit 0, rfl, hstep, ?_, rfl⟩
    rw [n2]
    exact (rq2 ps ps.length (allN ps 2) (tk ps 0) (tk ps 1)).trans (cond_f (decide_eq_false (by omega)) rfl)
  rw [decide_eq_false n2, cond_false] at hgt
  by_cases n3 : ps.length = 3
  · rw [decide_eq_true n3, cond_true] at hgt
    cases hgt
    refine ⟨ps.length, AQ ps, .exit 0, rfl, hstep, ?_, rfl⟩
    rw [n3]
    exact (rq3 ps ps.length (allN ps 3) (tk ps 0) (tk ps 1) (tk ps 2)).trans (cond_f (decide_eq_false (by omega)) rfl)
  rw [decide_eq_false n3, cond_false] at hgt
  by_cases n4 : ps.length = 4
  · rw [decide_eq_true n4, cond_true] at hgt
    cases hgt
    refine ⟨ps.length, AQ ps, .exit 0, rfl, hstep, ?_, rfl⟩
    rw [n4]
    exact (rq4 ps ps.length (allN ps 4) (tk ps 0) (tk ps 1) (tk ps 2) (tk ps 3)).trans (cond_f (decide_eq_false (by omega)) rfl)
  rw [decide_eq_false n4, cond_false] at hgt
  by_cases n5 : ps.length = 5
  · rw [decide_eq_true n5, cond_true] at hgt
    cases hgt
    refine ⟨ps.length, AQ ps, .exit 0, rfl, hstep, ?_, rfl⟩
    rw [n5]
    exact (rq5 ps ps.length (allN ps 5) (tk ps 0) (tk ps 1) (tk ps 2) (tk ps 3) (tk ps 4)).trans (cond_f (decide_eq_false (by omega)) rfl)
  rw [decide_eq_false n5, cond_false] at hgt
  cases hgt
  obtain ⟨m, hm⟩ : ∃ m, ps.length = m + 6 := ⟨ps.length - 6, by omega⟩
  refine ⟨ps.length, AQ ps, .exit 0, rfl, hstep, ?_, rfl⟩
  rw [hm]
  exact (rq6 ps ps.length m (allN ps 6) (tk ps 0) (tk ps 1) (tk ps 2) (tk ps 3) (tk ps 4) (tk ps 5)).trans (cond_f (decide_eq_false (by omega)) rfl)

theorem loops4 : LoopsOk Try.prog ⟨Try.f4.ntmps, 7, [(0, SqM)]⟩ (bodyOf Try.f4) := by
  refine loopsOk_of ?_
  have e : loopsIn [(0, SqM)] (bodyOf Try.f4) = [(0, .loop (lb 0 Try.f4), SqM)] := by kernel_rfl
  simp only [e]
  intro x hx
  simp only [List.mem_cons, List.not_mem_nil, or_false] at hx
  rcases hx with rfl
  · exact lokQ

end Go.Proofs.Ytgebgjhjegadpaa

namespace Go.Proofs.Ytgebgjhjegadpaa
open Go

def n123 : List Nat := 1 :: 2 :: 3 :: List.replicate 9 0

def mixQ (o : OpsA) (d : OpsD) (key : List Nat) (num : Nat) (ps : List (List Nat)) (k : Nat) : Option (AV × List (Option Blk)) :=
  nd [o.okL (ownN ps k)]
   (cond (decide (o.len (ownN ps k) k ≤ 16777216))
    (nd [decide ((allN ps k).length < 4611686018427387904)]
     (cond (decide (16777216 < (allN ps k).length))
      (nd [decide (o.len (ownN ps k) k = o.len (ownN ps k) k)]
       (cond (decide (o.mix key n123 num (o.cat (ownN ps k) k) (o.len (ownN ps k) k) = []))
        (some (AV.s (SV.bool (decide (0 = 2))), []))
        (some (AV.s (SV.bool false), []))))
      (nd [decide (o.len (ownN ps k) k = o.len (ownN ps k) k)]
       (cond (decide (o.mix key n123 num (o.cat (ownN ps k) k) (o.len (ownN ps k) k) = d.mxR key n123 num (allN ps k)))
        (some (AV.s (SV.bool (decide (0 = 0))), []))
        (some (AV.s (SV.bool false), []))))))
    (nd [decide ((allN ps k).length < 4611686018427387904)]
     (cond (decide (16777216 < (allN ps k).length))
      (some (AV.s (SV.bool (decide (2 = 2))), []))
      (cond (decide ([] = d.mxR key n123 num (allN ps k)))
       (some (AV.s (SV.bool (decide (2 = 0))), []))
       (some (AV.s (SV.bool false), []))))))

set_option maxRecDepth 100000 in
theorem r4 (o : OpsA) (d : OpsD) (key : List Nat) (num : Nat) (ps : List (List Nat)) : runL Try.prog [(19, F19), (22, Z22 o), (23, Y23 d)] [] .nat 7 [(0, SqM)] Try.f4 [.agg [.ints .u8 32 key], .s (.nat .u32 num), .s (.xsl (.bss ps))] [] =
(nd [decide (ps.length < 9223372036854775808), decide (ps.length = ps.length), decide (ps.length < 9223372036854775808), okLens ps]
 (cond (decide (ps.length = 0))
 (nd [o.okL []]
 (cond (decide (o.len [] 0 ≤ 16777216))
 (cond (decide ([] = d.mxR key n123 num []))
 (some (AV.s (SV.bool (decide (0 = 0))), []))
 (some (AV.s (SV.bool false), [])))
 (cond (decide ([] = d.mxR key n123 num []))
 (some (AV.s (SV.bool (decide (2 = 0))), []))
 (some (AV.s (SV.bool false), [])))))
 (cond (decide (ps.length = 1)) (mixQ o d key num ps 1)
 (cond (decide (ps.length = 2)) (mixQ o d key num ps 2)
 (cond (decide (ps.length = 3)) (mixQ o d key num ps 3)
 (cond (decide (ps.length = 4)) (mixQ o d key num ps 4)
 (cond (decide (ps.length = 5)) (mixQ o d key num ps 5) (mixQ o d key num ps 6)))))))) := by kernel_rfl

theorem ownN_len (ps : List (List Nat)) : ∀ k, (ownN ps k).length = k
  | 0 => rfl
  | k + 1 => by rw [ownN, List.length_append, ownN_len ps k]; rfl

theorem catN_app (l : List (List Nat)) (y : List Nat) : ∀ i, i ≤ l.length → catN (l ++ [y]) i = catN l i
  | 0, _ => rfl
  | i + 1, h => by
    rw [catN, catN, catN_app l y i (by omega), List.getD, List.getElem?_append_left (by omega), ← List.getD]

theorem cat_own (ps : List (List Nat)) : ∀ k, catN (ownN ps k) k = allN ps k
  | 0 => rfl
  | k + 1 => by
    have hl := ownN_len ps k
    rw [ownN, catN, catN_app _ _ _ (by omega), cat_own ps k, allN, List.getD, List.getElem?_append_right (by omega), hl, Nat.sub_self]
    rfl

theorem own_mem (ps : List (List Nat)) : ∀ k, ∀ p ∈ ownN ps k, p.length ≤ 200
  | 0, p, h => by cases h
  | k + 1, p, h => by
    rcases List.mem_append.1 h with h1 | h1
    · exact own_mem ps k p h1
    · simp only [List.mem_cons, List.not_mem_nil, or_false] at h1
      subst h1
      exact tk_len ps k

theorem len_own (ps : List (List Nat)) (k : Nat) : lenN (ownN ps k) k = (allN ps k).length := by rw [← catN_len, cat_own]

theorem mixQ_ok {key : List Nat} {num : Nat} (hk : b8 key = true) (hnum : num < 4294967296) (ps : List (List Nat)) {k : Nat} (hk6 : k ≤ 6) : mixQ opsA opsD key num ps k = some (.s (.bool true), []) := by
  have ha := allN_len ps k
  have hm : opsD.mxR key n123 num (allN ps k) = mixC key n123 num (allN ps k) (allN ps k).length := by
    rw [opsD_mxR]
    exact mixR_eq (b8_B8 hk) (b8_B8 (by decide)) hnum (by omega)
  unfold mixQ
  rw [opsA_okL, opsA_len, opsA_cat, opsA_mix, cat_own, len_own, hm]
  refine nd_of ?_ (cond_t (decide_eq_true (by omega)) (nd_of ?_ (cond_f (decide_eq_false (by omega)) (nd_of ?_ (cond_t (decide_eq_true rfl) rfl)))))
  · simp only [List.mem_cons, List.not_mem_nil, or_false, forall_eq]
    exact okL_of fun p hp => by have := own_mem ps k p hp; omega
  · simp only [List.mem_cons, List.not_mem_nil, or_false, forall_eq, decide_eq_true_eq]; omega
  · simp only [List.mem_cons, List.not_mem_nil, or_false, forall_eq, decide_eq_true_eq]

theorem ctr4 {key : List Nat} {num : Nat} {ps : List (List Nat)} (hk : ∀ x ∈ key, x < 256) (hnum : num < 4294967296) (hl : ps.length < 9223372036854775808) (hp : ∀ p ∈ ps, p.length < 9223372036854775808) :
    Ctr Try.prog 4 [.agg [.ints .u8 32 key], .s (.nat .u32 num), .s (.xsl (.bss ps))] [] (.s (.bool true)) [] := by
  refine ctrL (fs := [(19, F19), (22, Z22 opsA), (23, Y23 opsD)]) (xs := []) (m := .nat) (fuel := 7) (sums := [(0, SqM)]) (.cons ok19 (.cons zz22 (.cons yy23 .nil))) fn4 loops4 ?_
  have hk8 := b8_mem hk
  have hok : okLens ps = true := okL_of hp
  have hmq := fun k (h : k ≤ 6) => mixQ_ok hk8 hnum ps h
  rw [r4, hmq 1 (by decide), hmq 2 (by decide), hmq 3 (by decide), hmq 4 (by decide), hmq 5 (by decide), hmq 6 (by decide)]
  refine nd_of ?_ ?_
  · simp only [List.mem_cons, List.not_mem_nil, or_false, forall_eq_or_imp, forall_eq, decide_eq_true_eq]
    exact ⟨by omega, trivial, hl, hok⟩
  · cases decide (ps.length = 0)
    · refine cond_f rfl ?_
      cases decide (ps.length = 1)
      · refine cond_f rfl ?_
        cases decide (ps.length = 2)
        · refine cond_f rfl ?_
          cases decide (ps.length = 3)
          · refine cond_f rfl ?_
            cases decide (ps.length = 4)
            · refine cond_f rfl ?_
              cases decide (ps.length = 5)
              · exact cond_f rfl rfl
              · exact cond_t rfl rfl
            · exact cond_t rfl rfl
          · exact cond_t rfl rfl
        · exact cond_t rfl rfl
      · exact cond_t rfl rfl
    · have hm : opsD.mxR key n123 num [] = [] := by
        rw [opsD_mxR, mixR_eq (b8_B8 hk8) (b8_B8 (by decide)) hnum (by decide)]
        exact List.length_eq_zero_iff.1 (mixC_len _ _ _ _ _)
      rw [hm, opsA_okL, opsA_len]
      refine cond_t rfl (nd_of ?_ (cond_t (decide_eq_true (by decide)) (cond_t (decide_eq_true rfl) rfl)))
      simp only [List.mem_cons, List.not_mem_nil, or_false, forall_eq]
      rfl

end Go.Proofs.Ytgebgjhjegadpaa

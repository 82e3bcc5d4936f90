/-
  ChaCha: the code's mixing.
-/
import Derived.Test.YtgebgjhjegadpaaChK
namespace Go.Proofs.Ytgebgjhjegadpaa
open Go

def zeros64 : List Nat := [0, 0, 0, 0, 0, 0, 0, 0, 0, 0, 0, 0, 0, 0, 0, 0, 0, 0, 0, 0, 0, 0, 0, 0, 0, 0, 0, 0, 0, 0, 0, 0, 0, 0, 0, 0, 0, 0, 0, 0, 0, 0, 0, 0, 0, 0, 0, 0, 0, 0, 0, 0, 0, 0, 0, 0, 0, 0, 0, 0, 0, 0, 0, 0]

def mixC (key nonce : List Nat) (c : Nat) (xs : List Nat) (l : Nat) : List Nat := (mrun key nonce c zeros64 xs l).2

def F22 : FSem := ⟨true, fun args hin => match args, hin with
  | [.agg [.ints .u8 32 key], .agg [.ints .u8 12 nonce], .s (.nat .u32 c), .s (.xsl (.bss pss))], [] =>
    some (Tr.needs [decide (pss.length < 9223372036854775808), okLens pss]
      (.br (decide (lenN pss pss.length ≤ 16777216))
        (.br (decide (pss.length = 0)) (.leaf (.tup [.s .nil, .s (.nat .i64 0)], []))
          (.leaf (.tup [.s (.sl .whole 0 0 (lenN pss pss.length) 1), .s (.nat .i64 0)], [some [.ints .u8 (lenN pss pss.length) (mixC key nonce c (catN pss pss.length) (lenN pss pss.length))]])))
        (.leaf (.tup [.s .nil, .s (.nat .i64 2)], []))))
  | _, _ => none⟩

theorem fn22 : Fn Try.prog 22 Try.f22 := ⟨mixed, Try.func22, by kernel_rfl, of_decide_eq_true (by kernel_rfl)⟩

set_option maxRecDepth 100000 in
theorem r22 (key nonce : List Nat) (c : Nat) (pss : List (List Nat)) : runL Try.prog [(20, F20)] [] .nat 3 [(0, S0), (2, S2)] Try.f22 [.agg [.ints .u8 32 key], .agg [.ints .u8 12 nonce], .s (.nat .u32 c), .s (.xsl (.bss pss))] [] =
    nd [decide (pss.length < 9223372036854775808), decide (pss.length = pss.length), decide (pss.length < 9223372036854775808), okLens pss]
      (cond (decide (badAt 16777216 pss 0 = pss.length))
        (cond (decide (pss.length = 0)) (some (.tup [.s .nil, .s (.nat .i64 0)], []))
          (nd [decide (lenN pss pss.length < 9223372036854775808), decide (lenN pss pss.length = lenN pss pss.length), decide (lenN pss pss.length = lenN pss pss.length), decide (lenN pss pss.length < 9223372036854775808)]
            (some (.tup [.s (.sl .whole 0 0 (lenN pss pss.length) 1), .s (.nat .i64 0)], [some [.ints .u8 (lenN pss pss.length) (mixC key nonce c (catN pss pss.length) (lenN pss pss.length))]]))))
        (cond (decide (badAt 16777216 pss 0 = 0)) (some (.tup [.s .nil, .s (.nat .i64 2)], [])) (some (.tup [.s .nil, .s (.nat .i64 2)], [])))) := by kernel_rfl

theorem loops22 : LoopsOk Try.prog ⟨Try.f22.ntmps, 3, [(0, S0), (2, S2)]⟩ (bodyOf Try.f22) := by
  refine loopsOk_of ?_
  have e : loopsIn [(0, S0), (2, S2)] (bodyOf Try.f22) = [(0, .loop (lb 0 Try.f22), S0), (2, .loop (lb 2 Try.f22), S2)] := by kernel_rfl
  simp only [e]
  intro x hx
  simp only [List.mem_cons, List.not_mem_nil, or_false] at hx
  rcases hx with rfl | rfl
  · exact lok0
  · exact lok2

theorem ok22 : FOk Try.prog 22 F22 := by
  refine fokL (fs := [(20, F20)]) (xs := []) (m := .nat) (fuel := 3) (sums := [(0, S0), (2, S2)]) (.cons ok20 .nil) fn22 loops22 ?_
  intro args hin t r h hg
  unfold F22 at h
  simp only at h
  split at h
  rotate_left
  · cases h
  rename_i key nonce c pss
  simp only [Option.some.injEq] at h
  subst h
  obtain ⟨hc, hgt⟩ := Tr.needs_get hg
  clear hg
  have hl : pss.length < 9223372036854775808 := of_decide_eq_true (hc _ (by simp))
  have hk : okLens pss = true := hc _ (by simp)
  clear hc
  rw [r22, nd_true]
  · simp only [Tr.get] at hgt
    by_cases hs : lenN pss pss.length ≤ 16777216
    · rw [decide_eq_true ((badAt_all 16777216 pss).2 hs), cond_true]
      rw [decide_eq_true hs, cond_true] at hgt
      rw [nd_true]
      · exact hgt
      · intro d hd
        simp only [List.mem_cons, List.not_mem_nil, or_false] at hd
        rcases hd with rfl | rfl | rfl | rfl <;> first | exact decide_eq_true (by omega) | simp
    · rw [decide_eq_false (fun e => hs ((badAt_all 16777216 pss).1 e)), cond_false]
      rw [decide_eq_false hs, cond_false] at hgt
      cases decide (badAt 16777216 pss 0 = 0) <;> exact hgt
  · intro d hd
    simp only [List.mem_cons, List.not_mem_nil, or_false] at hd
    rcases hd with rfl | rfl | rfl | rfl
    · exact decide_eq_true hl
    · simp
    · exact decide_eq_true hl
    · exact hk

/-! What mixing does. -/
def mixAt (key nonce : List Nat) (c : Nat) (xs : List Nat) (i : Nat) : Nat := xs.getD i 0 ^^^ (blk key nonce ((c + i / 64 % 4294967296) % 4294967296)).getD (i % 64) 0

theorem mrun_spec (key nonce : List Nat) (c : Nat) (xs : List Nat) : ∀ j, (mrun key nonce c zeros64 xs j).2.length = xs.length ∧ (∀ i, (mrun key nonce c zeros64 xs j).2.getD i 0 = if i < j ∧ i < xs.length then mixAt key nonce c xs i else xs.getD i 0) ∧
    (0 < j → (mrun key nonce c zeros64 xs j).1 = blk key nonce ((c + (j - 1) / 64 % 4294967296) % 4294967296))
  | 0 => ⟨rfl, fun i => by simp [mrun], fun h => by omega⟩
  | j + 1 => by
    obtain ⟨h1, h2, h3⟩ := mrun_spec key nonce c xs j
    have hcur : mcur key nonce c (mrun key nonce c zeros64 xs j).1 j = blk key nonce ((c + j / 64 % 4294967296) % 4294967296) := by
      unfold mcur
      cases hd : decide (j % 64 = 0) with
      | true => rfl
      | false =>
        have hd := of_decide_eq_false hd
        simp only
        rw [h3 (by omega), show (j - 1) / 64 = j / 64 by omega]
    simp only [mrun, hcur]
    refine ⟨by simp [h1], fun i => ?_, fun _ => by simp⟩
    by_cases hi : i = j
    · subst hi
      by_cases hl : i < xs.length
      · rw [if_pos ⟨by omega, hl⟩, List.getD, List.getElem?_set_self (by omega), Option.getD_some, h2 i, if_neg (by omega)]
        rfl
      · rw [if_neg (fun h => hl h.2), List.getD, List.getElem?_eq_none (by simp; omega), List.getD, List.getElem?_eq_none (by omega)]
    · have e : ∀ v, ((mrun key nonce c zeros64 xs j).2.set j v).getD i 0 = (mrun key nonce c zeros64 xs j).2.getD i 0 := fun v => by
        rw [List.getD, List.getElem?_set_ne (fun h => hi h.symm), List.getD]
      rw [e, h2 i]
      by_cases h : i < j ∧ i < xs.length
      · rw [if_pos h, if_pos ⟨by omega, h.2⟩]
      · rw [if_neg h, if_neg (by omega)]

theorem mixC_len (key nonce : List Nat) (c : Nat) (xs : List Nat) (l : Nat) : (mixC key nonce c xs l).length = xs.length := (mrun_spec key nonce c xs l).1

theorem mixC_get (key nonce : List Nat) (c : Nat) (xs : List Nat) {l i : Nat} (h : i < l) (hx : i < xs.length) : (mixC key nonce c xs l).getD i 0 = mixAt key nonce c xs i := by
  rw [mixC, (mrun_spec key nonce c xs l).2.1 i, if_pos ⟨h, hx⟩]

end Go.Proofs.Ytgebgjhjegadpaa

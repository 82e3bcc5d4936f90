/-
  Functions with summaries of loops: what must be shown of each.
-/
import Derived.Test.YtgebgjhjegadpaaAcB
namespace Go.Proofs.Ytgebgjhjegadpaa
open Go

def loopsIn (sums : List (Nat × LSem)) : Code → List (Nat × Code × LSem)
  | .seq a b => loopsIn sums a ++ loopsIn sums b
  | .cond _ a b => loopsIn sums a ++ loopsIn sums b
  | .block id body => match lkF sums id with
    | some S => [(id, body, S)]
    | none => loopsIn sums body
  | .loop body => loopsIn sums body
  | _ => []

theorem loopsOk_of {P : Program} {L : Lps} : ∀ {c : Code}, (∀ x ∈ loopsIn L.sums c, LOk P L.N (.block x.1 x.2.1) x.2.2) → LoopsOk P L c := by
  intro c
  induction c with
  | seq a b iha ihb => intro h; exact ⟨iha fun x hx => h x (List.mem_append_left _ hx), ihb fun x hx => h x (List.mem_append_right _ hx)⟩
  | cond o a b iha ihb => intro h; exact ⟨iha fun x hx => h x (List.mem_append_left _ hx), ihb fun x hx => h x (List.mem_append_right _ hx)⟩
  | block id body ih =>
    intro h
    unfold LoopsOk
    unfold loopsIn at h
    cases hl : lkF L.sums id with
    | some S => rw [hl] at h; exact h _ (List.mem_singleton.2 rfl)
    | none => rw [hl] at h; exact ih h
  | loop body ih => intro h; exact ih h
  | _ => intro _; trivial

def findB (id : Nat) : Code → Option Code
  | .seq a b => match findB id a with
    | some c => some c
    | none => findB id b
  | .cond _ a b => match findB id a with
    | some c => some c
    | none => findB id b
  | .block j body => match Nat.beq j id with
    | true => some body
    | false => findB id body
  | .loop body => findB id body
  | _ => none

def lb (id : Nat) (f : Func) : Code := match findB id (bodyOf f) with
  | some (.loop b) => b
  | _ => .skip

def kitL (P : Program) (fs : List (Nat × FSem)) (xs : List (Nat × (List AV → Option (Tr AV)))) (m : SubMode) (N : Nat) (msk : Nat) : Kit := ⟨⟨P, fs, xs⟩, m, fun d => hasBit msk d && Nat.blt d N⟩

def runR (P : Program) (fs : List (Nat × FSem)) (xs : List (Nat × (List AV → Option (Tr AV)))) (m : SubMode) (fuel : Nat) (sums : List (Nat × LSem)) (fn : Func) (id : Nat) (S : LSem) (k : Nat) (args : List AV) (hs : List (Option Blk)) : Option (Ex × List AV × List (Option Blk)) :=
  evRound (kitL P fs xs m fn.ntmps (wrCode (lb id fn))) ⟨fn.ntmps, fuel, sums⟩ S k (lb id fn) args hs

theorem lokR {P : Program} {fs : List (Nat × FSem)} {xs : List (Nat × (List AV → Option (Tr AV)))} {m : SubMode} {fuel : Nat} {sums : List (Nat × LSem)} {fn : Func} {id : Nat} {S : LSem} (hE : EnvOk ⟨P, fs, xs⟩) (hm : P.follows .mixedOrders = true)
    (hL : LoopsOk P ⟨fn.ntmps, fuel, sums⟩ (lb id fn))
    (h : ∀ args hin t e vs hout, S.run args hin = some t → t.get = some (e, vs, hout) → ∃ (n : Nat) (A : Nat → List AV × List (Option Blk)) (e' : Ex), A 0 = (args, someL hin) ∧
      (∀ i, i < n → runR P fs xs m fuel sums fn id S hin.length (A i).1 (A i).2 = some (.normal, A (i + 1))) ∧ runR P fs xs m fuel sums fn id S hin.length (A n).1 (A n).2 = some (e', vs, hout) ∧ exB id e' = some e) :
    LOk P fn.ntmps (.block id (.loop (lb id fn))) S :=
  loop_ok (X := kitL P fs xs m fn.ntmps (wrCode (lb id fn))) (Lp := ⟨fn.ntmps, fuel, sums⟩) hE (fun d hd => by
    have hd : (hasBit (wrCode (lb id fn)) d && Nat.blt d fn.ntmps) = true := hd
    rw [Bool.and_eq_true] at hd
    exact ⟨hd.1, Nat.le_of_ble_eq_true hd.2⟩) rfl hm hL h

end Go.Proofs.Ytgebgjhjegadpaa

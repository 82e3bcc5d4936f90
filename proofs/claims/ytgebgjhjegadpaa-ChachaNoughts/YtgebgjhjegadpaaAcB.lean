/-
  Functions without summaries of loops: what must be shown of each.
-/
import Derived.Test.YtgebgjhjegadpaaAcA
namespace Go.Proofs.Ytgebgjhjegadpaa
open Go

def bodyOf (f : Func) : Code := match f.body with
  | some c => c
  | none => .skip

theorem loopsOk_none {P : Program} {L : Lps} (h : L.sums = []) : ∀ c : Code, LoopsOk P L c := by
  intro c
  induction c with
  | seq a b iha ihb => exact ⟨iha, ihb⟩
  | cond o a b iha ihb => exact ⟨iha, ihb⟩
  | block id body ih => unfold LoopsOk; rw [h]; exact ih
  | loop body ih => exact ih
  | _ => trivial

def kitOf (P : Program) (fs : List (Nat × FSem)) (xs : List (Nat × (List AV → Option (Tr AV)))) (m : SubMode) (fn : Func) : Kit := ⟨⟨P, fs, xs⟩, m, fun d => Nat.blt d fn.ntmps⟩

def runB (P : Program) (fs : List (Nat × FSem)) (xs : List (Nat × (List AV → Option (Tr AV)))) (m : SubMode) (fuel : Nat) (fn : Func) (args : List AV) (hin : List Blk) : Option (AV × List (Option Blk)) :=
  evBody (kitOf P fs xs m fn) ⟨fn.ntmps, fuel, []⟩ fn (bodyOf fn) args hin

def runL (P : Program) (fs : List (Nat × FSem)) (xs : List (Nat × (List AV → Option (Tr AV)))) (m : SubMode) (fuel : Nat) (sums : List (Nat × LSem)) (fn : Func) (args : List AV) (hin : List Blk) : Option (AV × List (Option Blk)) :=
  evBody (kitOf P fs xs m fn) ⟨fn.ntmps, fuel, sums⟩ fn (bodyOf fn) args hin

structure Fn (P : Program) (f : Nat) (fn : Func) : Prop where
  mixed : P.follows .mixedOrders = true
  at_ : P.funcs[f]? = some fn
  body : fn.body = some (bodyOf fn)
  name : fn.name ≠ "runtime.NumGoroutine"

theorem EnvOk.nil {P : Program} : EnvOk ⟨P, [], []⟩ := ⟨fun f F h => by simp [lkF] at h, fun f F h => by simp [lkF] at h⟩

theorem EnvOk.cons {P : Program} {fs : List (Nat × FSem)} {xs : List (Nat × (List AV → Option (Tr AV)))} {f : Nat} {F : FSem} (h : FOk P f F) (hr : EnvOk ⟨P, fs, xs⟩) : EnvOk ⟨P, (f, F) :: fs, xs⟩ := by
  refine ⟨fun g G hg => ?_, hr.xs⟩
  by_cases e : f = g
  · subst e
    simp only [lkF, Nat.beq_refl, Option.some.injEq] at hg
    subst hg
    exact h
  · simp only [lkF, beq_false e] at hg
    exact hr.fs g G hg

theorem EnvOk.consX {P : Program} {xs : List (Nat × (List AV → Option (Tr AV)))} {f : Nat} {F : List AV → Option (Tr AV)} (h : XOk P f F) (hr : EnvOk ⟨P, [], xs⟩) : EnvOk ⟨P, [], (f, F) :: xs⟩ := by
  refine ⟨fun g G hg => by simp [lkF] at hg, fun g G hg => ?_⟩
  by_cases e : f = g
  · subst e
    simp only [lkF, Nat.beq_refl, Option.some.injEq] at hg
    subst hg
    exact h
  · simp only [lkF, beq_false e] at hg
    exact hr.xs g G hg

theorem fokB {P : Program} {fs : List (Nat × FSem)} {xs : List (Nat × (List AV → Option (Tr AV)))} {m : SubMode} {fuel : Nat} {f : Nat} {fn : Func} {F : FSem} (hE : EnvOk ⟨P, fs, xs⟩) (hF : Fn P f fn)
    (h : ∀ args hin t r, F.run args hin = some t → t.get = some r → runB P fs xs m fuel fn args hin = some r) : FOk P f F :=
  fok (X := kitOf P fs xs m fn) (L := ⟨fn.ntmps, fuel, []⟩) hE rfl rfl hF.mixed (loopsOk_none rfl _) hF.at_ hF.body hF.name h

theorem fokL {P : Program} {fs : List (Nat × FSem)} {xs : List (Nat × (List AV → Option (Tr AV)))} {m : SubMode} {fuel : Nat} {sums : List (Nat × LSem)} {f : Nat} {fn : Func} {F : FSem} (hE : EnvOk ⟨P, fs, xs⟩) (hF : Fn P f fn)
    (hL : LoopsOk P ⟨fn.ntmps, fuel, sums⟩ (bodyOf fn))
    (h : ∀ args hin t r, F.run args hin = some t → t.get = some r → runL P fs xs m fuel sums fn args hin = some r) : FOk P f F :=
  fok (X := kitOf P fs xs m fn) (L := ⟨fn.ntmps, fuel, sums⟩) hE rfl rfl hF.mixed hL hF.at_ hF.body hF.name h

theorem ctrB {P : Program} {fs : List (Nat × FSem)} {xs : List (Nat × (List AV → Option (Tr AV)))} {m : SubMode} {fuel : Nat} {f : Nat} {fn : Func} (hE : EnvOk ⟨P, fs, xs⟩) (hF : Fn P f fn) {args : List AV} {hin : List Blk} {v : AV} {hout : List (Option Blk)}
    (h : runB P fs xs m fuel fn args hin = some (v, hout)) : Ctr P f args hin v hout :=
  evBody_sound (X := kitOf P fs xs m fn) (L := ⟨fn.ntmps, fuel, []⟩) hE rfl rfl hF.mixed (loopsOk_none rfl _) hF.at_ hF.body h

theorem ctrL {P : Program} {fs : List (Nat × FSem)} {xs : List (Nat × (List AV → Option (Tr AV)))} {m : SubMode} {fuel : Nat} {sums : List (Nat × LSem)} {f : Nat} {fn : Func} (hE : EnvOk ⟨P, fs, xs⟩) (hF : Fn P f fn) {args : List AV} {hin : List Blk} {v : AV} {hout : List (Option Blk)}
    (hL : LoopsOk P ⟨fn.ntmps, fuel, sums⟩ (bodyOf fn)) (h : runL P fs xs m fuel sums fn args hin = some (v, hout)) : Ctr P f args hin v hout :=
  evBody_sound (X := kitOf P fs xs m fn) (L := ⟨fn.ntmps, fuel, sums⟩) hE rfl rfl hF.mixed hL hF.at_ hF.body h

/-- What must hold, one after the other. -/
def nd {α : Type} : List Bool → Option α → Option α
  | [], x => x
  | c :: cs, x => cond c (nd cs x) none

theorem nd_true {α : Type} {x : Option α} : ∀ {cs : List Bool}, (∀ c ∈ cs, c = true) → nd cs x = x
  | [], _ => rfl
  | c :: cs, h => by
    have hc : c = true := h c List.mem_cons_self
    subst hc
    exact nd_true (cs := cs) fun d hd => h d (List.mem_cons_of_mem _ hd)

theorem addOff_eq' (a b : Nat) : addOff a b = a + b := by cases a <;> simp [addOff]

end Go.Proofs.Ytgebgjhjegadpaa

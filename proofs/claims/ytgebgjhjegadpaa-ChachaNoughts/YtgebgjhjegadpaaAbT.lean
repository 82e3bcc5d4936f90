/-
  The abstract machine: the evaluator: regions, code, functions.
-/
import Derived.Test.YtgebgjhjegadpaaAbS
namespace Go.Proofs.Ytgebgjhjegadpaa
open Go

/-! The static side of a region. -/
def bindE (e : Edge) : Bool := match e.ground with
  | .textOnly _ => false
  | .gcOnly _ => false
  | _ => true

def tmpMask : List Operand → Nat
  | [] => 0
  | .tmp t :: r => Nat.lor (Nat.pow 2 t) (tmpMask r)
  | _ :: r => tmpMask r

def guardDst (ops : Array Oper) (o : Oper) : Option Nat := match o.guard with
  | some (g, _) => match ops[g]? with
    | some og => og.dst
    | none => none
  | none => none

def lookMask (ops : Array Oper) (o : Oper) : Nat := match guardDst ops o with
  | some d => Nat.lor (Nat.pow 2 d) (tmpMask o.op.operands.toList)
  | none => tmpMask o.op.operands.toList

def ancE (j : Nat) (anc : List Nat) : List Edge → Option Nat
  | [] => some 0
  | e :: es => match bindE e with
    | false => ancE j anc es
    | true => match Nat.blt e.on j, anc[e.on]?, ancE j anc es with
      | true, some m, some r => some (Nat.lor (Nat.lor (Nat.pow 2 e.on) m) r)
      | _, _, _ => none

def ancs : List Oper → List Nat → Option (List Nat)
  | [], acc => some acc
  | o :: os, acc => match ancE acc.length acc o.after.toList with
    | some m => ancs os (acc ++ [m])
    | none => none

def hasBit (m i : Nat) : Bool := Nat.testBit m i

/-- What can be said of an operation without running it. -/
structure Sta where
  dst : Option Nat
  looks : Nat
  anc : Nat

def stas (ops : Array Oper) : List Oper → List Nat → Option (List Sta)
  | [], [] => some []
  | o :: os, m :: ms => match stas ops os ms with
    | some r => some (⟨o.dst, lookMask ops o, m⟩ :: r)
    | none => none
  | _, _ => none

def stasOf (ops : Array Oper) : Option (List Sta) := match ancs ops.toList [] with
  | some ms => stas ops ops.toList ms
  | none => none

def dstNot (d : Option Nat) (m : Nat) : Bool := match d with
  | some d => !hasBit m d
  | none => true

def dstNe : Option Nat → Option Nat → Bool
  | some d, some e => !Nat.beq d e
  | _, _ => true

/-- 'x' is the i-th, 'y' comes behind it. -/
def staPair (i : Nat) (x y : Sta) : Bool := hasBit y.anc i || (dstNot x.dst y.looks && dstNe x.dst y.dst && dstNot y.dst x.looks)

def staAgainst (i : Nat) (x : Sta) : List Sta → Bool
  | [] => true
  | y :: ys => match staPair i x y with
    | true => staAgainst i x ys
    | false => false

def staAll : Nat → List Sta → Bool
  | _, [] => true
  | i, x :: xs => match staAgainst i x xs with
    | true => staAll (i + 1) xs
    | false => false

/-! What operations did. -/
structure Did where
  rd : List Nat
  out : Out

def Did.tch (r : Did) : List Nat := r.out.wr.map (·.1) ++ r.out.nw.map (·.1)

def isNil : List Nat → Bool
  | [] => true
  | _ => false

/-- The i-th, which touches 'ts', against all that come behind it. -/
def didFwd (i : Nat) (ts : List Nat) : List Sta → List Did → Bool
  | y :: ys, r :: rs => match hasBit y.anc i || (disjN ts r.rd && disjN ts r.tch) with
    | true => didFwd i ts ys rs
    | false => false
  | _, _ => true

/-- One that reads 'rd', with the ancestors 'anc', against all that come behind it. -/
def didBwd (i : Nat) (rd : List Nat) : List Sta → List Did → Bool
  | y :: ys, r :: rs => match isNil r.tch || (hasBit y.anc i || disjN r.tch rd) with
    | true => didBwd i rd ys rs
    | false => false
  | _, _ => true

def didAll : Nat → List Sta → List Did → Bool
  | i, _ :: ys, r :: rs => match (isNil r.tch || didFwd i r.tch ys rs) && didBwd i r.rd ys rs with
    | true => didAll (i + 1) ys rs
    | false => false
  | _, _, _ => true

/-! Regions. -/
def newOk : Nat → List (Nat × Blk) → Bool
  | _, [] => true
  | nx, (n, _) :: r => match Nat.beq n nx with
    | true => newOk (nx + 1) r
    | false => false

def dstOk (dk : Nat → Bool) : Option Nat → Bool
  | some d => dk d
  | none => true

structure Kit where
  E : Env
  m : SubMode
  dk : Nat → Bool

/-- An operation that runs. -/
def evOp {R : Type} (X : Kit) (o : Oper) (s : St) (K : Did → St → Option R) : Option R :=
  match dstOk X.dk o.dst with
  | true => match (opSem X.E X.m s.val s.nx o.op).run (lkF s.H) with
    | some (tr, rd) => tr.cps fun out => match newOk s.nx out.nw with
      | true => K ⟨rd, out⟩ (s.app o.dst out)
      | false => none
    | none => none
  | false => none

/-- One that does not. -/
def noOp {R : Type} (X : Kit) (o : Oper) (s : St) (K : Did → St → Option R) : Option R :=
  match dstOk X.dk o.dst with
  | true => K ⟨[], Out.val .any⟩ (s.put o.dst .any)
  | false => none

def evG {R : Type} (X : Kit) (b : Bool) (o : Oper) (s : St) (K : Did → St → Option R) : Option R :=
  match b with
  | true => evOp X o s K
  | false => noOp X o s K

def evGuard {R : Type} (X : Kit) (ops : Array Oper) (o : Oper) (s : St) (K : Did → St → Option R) : Option R :=
  match o.guard with
  | none => evOp X o s K
  | some (_, want) => match guardDst ops o with
    | some d => match lkT s.T d with
      | .s (.bool c) => cond c (evG X want o { s with T := upT d (.s (.bool true)) s.T } K) (evG X (!want) o { s with T := upT d (.s (.bool false)) s.T } K)
      | _ => none
    | none => none

def evOps {R : Type} (X : Kit) (ops : Array Oper) : List Oper → List Did → St → (List Did → St → Option R) → Option R
  | [], tab, s, K => K tab s
  | o :: os, tab, s, K => evGuard X ops o s fun r s' => evOps X ops os (r :: tab) s' K

def evRegion {R : Type} (X : Kit) (ops : Array Oper) (draw : Bool) (s : St) (K : St → Option R) : Option R :=
  match draw with
  | false => evOps X ops ops.toList [] s fun _ s' => K s'
  | true => match stasOf ops with
    | some st => match staAll 0 st with
      | true => evOps X ops ops.toList [] s fun tab s' => match didAll 0 st tab.reverse with
        | true => K s'
        | false => none
      | false => none
    | none => none

/-! Values with what is behind them, once the names 0, 1, .., k - 1 are kept. -/
def closeO (h : Nat → Option Blk) : Nat → Nat → List Nat → Option (List Nat × List (Option Blk))
  | 0, _, _ => none
  | f + 1, i, ns => match ns[i]? with
    | none => some (ns, [])
    | some n => match h n with
      | some b => match closeO h f (i + 1) (insL ns (refsB b)) with
        | some r => some (r.1, some b :: r.2)
        | none => none
      | none => match closeO h f (i + 1) ns with
        | some r => some (r.1, none :: r.2)
        | none => none

def canonO (k : Nat) (vs : List AV) (h : Nat → Option Blk) : Option (List AV × List (Option Blk)) :=
  match closeO h 200 0 (insL (freshN 0 k) (refsL vs)) with
  | some r => match renL (idxN r.1) vs, renOs (idxN r.1) r.2 with
    | some vs', some bs' => some (vs', bs')
    | _, _ => none
  | none => none

/-! Code. -/
inductive Ex where
  | normal
  | exit (id : Nat)
  | ret

/-- A loop as a whole: the variables that it starts from, those that it leaves, what it does. -/
structure LSem where
  tin : List Nat
  tout : List Nat
  run : List AV → List Blk → Option (Tr (Ex × List AV × List (Option Blk)))

def valsT (T : List (Nat × AV)) : List Nat → List AV
  | [] => []
  | t :: ts => lkT T t :: valsT T ts

def putTs : List Nat → List AV → List (Nat × AV) → List (Nat × AV)
  | t :: ts, v :: vs, T => putTs ts vs (upT t v T)
  | _, _, T => T

/-- What the variables that a loop writes are after it, but for those that it tells of. -/
def forgetT (dk : Nat → Bool) : List (Nat × AV) → List (Nat × AV)
  | [] => []
  | (t, v) :: r => match dk t with
    | true => forgetT dk r
    | false => (t, v) :: forgetT dk r

/-- The variables that code writes. -/
def wrOps : List Oper → Nat
  | [] => 0
  | o :: os => match o.dst with
    | some d => Nat.lor (Nat.pow 2 d) (wrOps os)
    | none => wrOps os

def wrCode : Code → Nat
  | .region _ ops _ => wrOps ops.toList
  | .seq a b => Nat.lor (wrCode a) (wrCode b)
  | .cond _ a b => Nat.lor (wrCode a) (wrCode b)
  | .block _ c => wrCode c
  | .loop c => wrCode c
  | _ => 0

def iterL {R : Type} (step : St → (Ex → St → Option R) → Option R) : Nat → St → (Ex → St → Option R) → Option R
  | 0, _, _ => none
  | n + 1, s, K => step s fun e s' => match e with
    | .normal => iterL step n s' K
    | e => K e s'

def noTup : List AV → Bool
  | [] => true
  | .tup _ :: _ => false
  | _ :: vs => noTup vs

def afterLoop (ns : List Nat) (msk : Nat) (L : LSem) (s : St) (r : Ex × List AV × List (Option Blk)) : Option (Ex × St) :=
  match callOut false ns s.nx (.tup r.2.1, r.2.2) with
  | some o => match o.v with
    | .tup vs => match Nat.beq vs.length L.tout.length && noTup vs, newOk s.nx o.nw with
      | true, true => some (r.1, ⟨putTs L.tout vs (forgetT (hasBit msk) s.T), o.nw ++ upHs o.wr s.H, s.nx + o.nw.length⟩)
      | _, _ => none
    | _ => none
  | none => none

def maskOk (dk : Nat → Bool) : Nat → Nat → Bool
  | 0, _ => true
  | n + 1, m => match !hasBit m n || dk n with
    | true => maskOk dk n m
    | false => false

def evSum {R : Type} (X : Kit) (N : Nat) (msk : Nat) (L : LSem) (s : St) (K : Ex → St → Option R) : Option R :=
  match maskOk X.dk N msk && Nat.blt msk (Nat.pow 2 N) with
  | true => match (canon [] (valsT s.T L.tin)).run (lkF s.H) with
    | some (c, _) => match L.run c.2.1 c.2.2 with
      | some tr => (tr.map (afterLoop c.1 msk L s)).cps fun p => K p.1 p.2
      | none => none
    | none => none
  | false => none

structure Lps where
  N : Nat
  fuel : Nat
  sums : List (Nat × LSem)

def ev {R : Type} (X : Kit) (L : Lps) : Code → St → (Ex → St → Option R) → Option R
  | .skip, s, K => K .normal s
  | .region _ ops draw, s, K => evRegion X ops draw s (K .normal)
  | .seq a b, s, K => ev X L a s fun e s' => match e with
    | .normal => ev X L b s' K
    | e => K e s'
  | .cond c a b, s, K => match s.val c with
    | .s (.bool t) => cond t (ev X L a s K) (ev X L b s K)
    | _ => none
  | .block id body, s, K => match lkF L.sums id with
    | some S => evSum X L.N (wrCode body) S s K
    | none => ev X L body s fun e s' => match e with
      | .exit id' => match Nat.beq id' id with
        | true => K .normal s'
        | false => K (.exit id') s'
      | e => K e s'
  | .loop body, s, K => iterL (ev X L body) L.fuel s K
  | .exit id, s, K => K (.exit id) s
  | .ret, s, K => K .ret s
  | _, _, _ => none

/-! Functions. -/
def zipT : Nat → List AV → List (Nat × AV)
  | _, [] => []
  | i, v :: vs => (i, v) :: zipT (i + 1) vs

def zipH : Nat → List (Option Blk) → List (Nat × Blk)
  | _, [] => []
  | i, some b :: bs => (i, b) :: zipH (i + 1) bs
  | i, none :: bs => zipH (i + 1) bs

def someL : List Blk → List (Option Blk)
  | [] => []
  | b :: bs => some b :: someL bs

def resOne (E : Env) (s : St) : ResultVar → Option (Tr AV)
  | .tmp t => some (.leaf (lkT s.T t))
  | .cell a t => match (loadSem E.P t (lkT s.T a)).run (lkF s.H) with
    | some (tr, _) => some (tr.map fun o => match o.wr, o.nw with
      | [], [] => some o.v
      | _, _ => none)
    | none => none

def resAll {R : Type} (E : Env) (s : St) : List ResultVar → List AV → (List AV → Option R) → Option R
  | [], acc, K => K acc
  | r :: rs, acc, K => match resOne E s r with
    | some tr => tr.cps fun v => resAll E s rs (acc ++ [v]) K
    | none => none

def tupV : List AV → AV
  | [v] => v
  | vs => .tup vs

def evBody (X : Kit) (L : Lps) (fn : Func) (c : Code) (args : List AV) (hin : List Blk) : Option (AV × List (Option Blk)) :=
  match Nat.ble args.length L.N with
  | true => ev X L c ⟨zipT 0 args, zipH 0 (someL hin), hin.length⟩ fun e s => match e with
    | .exit _ => none
    | _ => resAll X.E s fn.results.toList [] fun vs => match noTup vs with
      | true => match canonO hin.length [tupV vs] (lkF s.H) with
        | some ([v], bs) => some (v, bs)
        | _ => none
      | false => none
  | false => none

/-- One round of a loop: 'none' for the next round. -/
def evRound (X : Kit) (L : Lps) (S : LSem) (k : Nat) (c : Code) (args : List AV) (hs : List (Option Blk)) : Option (Ex × List AV × List (Option Blk)) :=
  ev X L c ⟨putTs S.tin args [], zipH 0 hs, hs.length⟩ fun e s => match canonO k (valsT s.T (match e with
      | .normal => S.tin
      | _ => S.tout)) (lkF s.H) with
    | some r => some (e, r.1, r.2)
    | none => none

end Go.Proofs.Ytgebgjhjegadpaa

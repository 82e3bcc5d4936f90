/-
  Part 1 of what the last text stands on: An abstract machine for Go code without shared memory of its own: values with names for the blocks that a call makes, lists of numbers for arrays, and an evaluator that the kernel can run. Definitions.
-/
import Derived.Orders
import Derived.KernelRfl
import Derived.Laws.Cells
import Derived.Laws.Rows
import Derived.Laws.IdiomCopy
import Derived.Laws.StructEq
import Derived.Laws.BytesString
import Derived.Laws.MakeOwn

set_option linter.unusedSimpArgs false
set_option linter.unusedVariables false

namespace Go.Proofs.Ytgebgjhjegadpaa
open Go

def lim : IntKind → Nat
  | .u8 => 256 | .u16 => 65536 | .u32 => 4294967296 | .u64 => 18446744073709551616
  | .i8 => 128 | .i16 => 32768 | .i32 => 2147483648 | .i64 => 9223372036854775808

inductive XC where
  | ints (k : IntKind) (xs : List Nat)
  | arrs (k : IntKind) (n : Nat) (xss : List (List Nat))
  | bss (xss : List (List Nat))

def XC.len : XC → Nat
  | .ints _ xs => xs.length
  | .arrs _ _ xss => xss.length
  | .bss xss => xss.length

def XC.sz : XC → Nat
  | .ints _ _ => 1
  | .arrs _ n _ => n
  | .bss _ => 1

/-- How a slice of a row was cut: for the way in which its content is told. -/
inductive LK where
  | whole | pre | suf | mid

inductive SV where
  | bool (b : Bool)
  | nat (k : IntKind) (n : Nat)
  | int (z : Int)
  | str (s : List Nat)
  | ptr (b off : Nat)
  | sl (m : LK) (b off len sz : Nat)
  | nil
  | nilp
  | xsl (c : XC)
  | xptr (c : XC) (i : Nat)
  | fn (f : Nat) (first cap : List (Nat × Nat))

inductive Ch where
  | ints (k : IntKind) (n : Nat) (xs : List Nat)
  | one (v : SV)

inductive AV where
  | any
  | s (v : SV)
  | agg (cs : List Ch)
  | tup (vs : List AV)

abbrev Blk := List Ch

/-! Trees of outcomes: what must hold, and ways that part. -/
inductive Tr (α : Type) where
  | leaf (a : α)
  | need (c : Bool) (t : Tr α)
  | br (c : Bool) (x y : Tr α)
  | fail

def Tr.get {α : Type} : Tr α → Option α
  | .leaf a => some a
  | .need c t => cond c t.get none
  | .br c x y => cond c x.get y.get
  | .fail => none

def Tr.cps {α β : Type} (K : α → Option β) : Tr α → Option β
  | .leaf a => K a
  | .need c t => cond c (t.cps K) none
  | .br c x y => cond c (x.cps K) (y.cps K)
  | .fail => none

def Tr.needs {α : Type} : List Bool → Tr α → Tr α
  | [], t => t
  | c :: cs, t => .need c (Tr.needs cs t)

/-! Programs that look at blocks. -/
inductive RM (α : Type) where
  | pure (a : α)
  | fail
  | look (n : Nat) (k : Blk → RM α)

def RM.run {α : Type} (h : Nat → Option Blk) : RM α → Option (α × List Nat)
  | .pure a => some (a, [])
  | .fail => none
  | .look n k => match h n with
    | some b => match (k b).run h with
      | some (a, l) => some (a, n :: l)
      | none => none
    | none => none

def RM.bind {α β : Type} : RM α → (α → RM β) → RM β
  | .pure a, f => f a
  | .fail, _ => .fail
  | .look n k, f => .look n fun b => (k b).bind f

/-- The names looked at, too. -/
def RM.tr {α : Type} : RM α → RM (α × List Nat)
  | .pure a => .pure (a, [])
  | .fail => .fail
  | .look n k => .look n fun b => (k b).tr.bind fun (r : α × List Nat) => .pure (r.1, n :: r.2)

def RM.ofO {α : Type} : Option α → RM α
  | some a => .pure a
  | none => .fail

structure Out where
  v : AV
  wr : List (Nat × Option Blk)
  nw : List (Nat × Blk)

def Out.val (v : AV) : Out := ⟨v, [], []⟩

/-! Chunks. -/
def Ch.size : Ch → Nat
  | .ints _ n _ => n
  | .one _ => 1

def sizeB : List Ch → Nat
  | [] => 0
  | c :: cs => c.size + sizeB cs

/-- The part of 'ints' from 'off' on, of length 'm'. -/
def cutI (k : IntKind) (n : Nat) (xs : List Nat) (off m : Nat) : Ch :=
  match Nat.beq off 0 && Nat.beq m n with
  | true => .ints k n xs
  | false => .ints k m ((xs.drop off).take m)

def subB : Nat → Nat → List Ch → Option (List Ch)
  | off, len, cs => match Nat.beq len 0 with
    | true => some []
    | false => match cs with
      | [] => none
      | c :: cs => match Nat.ble c.size off with
        | true => subB (off - c.size) len cs
        | false => match c with
          | .one v => match subB 0 (len - 1) cs with
            | some r => some (.one v :: r)
            | none => none
          | .ints k n xs => match Nat.ble len (n - off) with
            | true => some [cutI k n xs off len]
            | false => match subB 0 (len - (n - off)) cs with
              | some r => some (cutI k n xs off (n - off) :: r)
              | none => none

/-- Replace the cells from 'off' on by 'new'. -/
def putB0 (off : Nat) (new : List Ch) (cs : List Ch) : Option (List Ch) :=
  match Nat.ble (off + sizeB new) (sizeB cs) with
  | true => match subB 0 off cs, subB (off + sizeB new) (sizeB cs - (off + sizeB new)) cs with
    | some a, some b => some (a ++ new ++ b)
    | _, _ => none
  | false => none

/-- The same; a number among numbers stays among them. -/
def putB (off : Nat) (new : List Ch) (cs : List Ch) : Option (List Ch) :=
  match new, cs with
  | [.one (.nat k x)], [.ints k' n xs] => match decide (k = k') && Nat.blt off n with
    | true => some [.ints k' n (xs.set off x)]
    | false => putB0 off new cs
  | new, cs => putB0 off new cs

def addOff : Nat → Nat → Nat
  | 0, x => x
  | o + 1, x => o + 1 + x

def dropZ : Nat → List Nat → List Nat
  | 0, xs => xs
  | o + 1, xs => xs.drop (o + 1)

def mulSz (i : Nat) : Nat → Nat
  | 1 => i
  | n => i * n

/-- One cell. -/
def getC : List Ch → Nat → Option (List Bool × SV)
  | [], _ => none
  | .one v :: cs, off => match off with
    | 0 => some ([], v)
    | o + 1 => getC cs o
  | .ints k n xs :: cs, off => match cs with
    | [] => some ([decide (off < n)], .nat k (xs.getD off 0))
    | c :: cs => match Nat.ble n off with
      | true => getC (c :: cs) (off - n)
      | false => some ([], .nat k (xs.getD off 0))

def setI (k : IntKind) (n : Nat) (xs : List Nat) (off : Nat) (cs : List Ch) (r : List Bool) : SV → Option (List Bool × List Ch)
  | .nat k' x => match decide (k' = k) with
    | true => some (r, .ints k n (xs.set off x) :: cs)
    | false => none
  | _ => none

def consO (c : Ch) : Option (List Bool × List Ch) → Option (List Bool × List Ch)
  | some (r, cs) => some (r, c :: cs)
  | none => none

def setC (v : SV) : List Ch → Nat → Option (List Bool × List Ch)
  | [], _ => none
  | .one w :: cs, off => match off with
    | 0 => some ([], .one v :: cs)
    | o + 1 => consO (.one w) (setC v cs o)
  | .ints k n xs :: cs, off => match cs with
    | [] => setI k n xs off [] [decide (off < n)] v
    | c :: cs => match Nat.ble n off with
      | true => consO (.ints k n xs) (setC v (c :: cs) (off - n))
      | false => setI k n xs off (c :: cs) [] v

/-! Constants and zeros. -/
def litSV : Value → Option SV
  | .bool b => some (.bool b)
  | .int k (.ofNat n) => match Nat.blt n (lim k) with
    | true => some (.nat k n)
    | false => none
  | .int .i64 (.negSucc n) => match Nat.blt n 9223372036854775808 with
    | true => some (.int (.negSucc n))
    | false => none
  | .string s => some (.str (s.data.toList.map (·.toNat)))
  | .slice none 0 0 => some .nil
  | .pointer none => some .nilp
  | _ => none

def litAV (v : Value) : AV := match litSV v with
  | some s => .s s
  | none => .any

/-- Numbers in front of a list of chunks: into the first chunk if that has the same kind. -/
def consI (k : IntKind) (x : Nat) : List Ch → List Ch
  | .ints k' n xs :: r => match decide (k = k') with
    | true => .ints k (n + 1) (x :: xs) :: r
    | false => .ints k 1 [x] :: .ints k' n xs :: r
  | r => .ints k 1 [x] :: r

def packV : List Value → Option (List Ch)
  | [] => some []
  | v :: vs => match litSV v, packV vs with
    | some (.nat k x), some r => some (consI k x r)
    | some s, some r => some (.one s :: r)
    | _, _ => none

/-- A lone number stands as one cell. -/
def thin : List Ch → List Ch
  | [] => []
  | .ints k 1 [x] :: r => .one (.nat k x) :: thin r
  | c :: r => c :: thin r

def tySize (P : Program) (t : TypeId) : Option Nat := match P.info? t with
  | some i => some i.size
  | none => none

def zeroB (P : Program) (t : TypeId) : Option (List Ch) :=
  match P.info? t with
  | some i => match i.zero with
    | some z => match packV z.cells.toList with
      | some r => some (thin r)
      | none => none
    | none => none
  | none => none

def isAggT (P : Program) (t : TypeId) : Option Bool := match P.underlying t with
  | some (.struct _) => some true
  | some (.array _ _) => some true
  | some _ => some false
  | none => none

def AV.cells : AV → Option (List Ch)
  | .s v => some [.one v]
  | .agg cs => some cs
  | _ => none

/-! Names. -/
def SV.refs : SV → List Nat
  | .ptr b _ => [b]
  | .sl _ b _ _ _ => [b]
  | .fn _ f c => f.map (·.1) ++ c.map (·.1)
  | _ => []

def Ch.refs : Ch → List Nat
  | .ints _ _ _ => []
  | .one v => v.refs

def refsB : List Ch → List Nat
  | [] => []
  | c :: cs => c.refs ++ refsB cs

mutual
def AV.refs : AV → List Nat
  | .s v => v.refs
  | .agg cs => refsB cs
  | .tup vs => refsL vs
  | .any => []
def refsL : List AV → List Nat
  | [] => []
  | v :: vs => v.refs ++ refsL vs
end

def idxN : List Nat → Nat → Option Nat
  | [], _ => none
  | n :: ns, b => match Nat.beq n b with
    | true => some 0
    | false => match idxN ns b with
      | some i => some (i + 1)
      | none => none

def renP (f : Nat → Option Nat) : List (Nat × Nat) → Option (List (Nat × Nat))
  | [] => some []
  | p :: ps => match f p.1, renP f ps with
    | some b, some r => some ((b, p.2) :: r)
    | _, _ => none

def SV.ren (f : Nat → Option Nat) : SV → Option SV
  | .ptr b o => match f b with
    | some b' => some (.ptr b' o)
    | none => none
  | .sl m b o l z => match f b with
    | some b' => some (.sl m b' o l z)
    | none => none
  | .fn g a c => match renP f a, renP f c with
    | some a', some c' => some (.fn g a' c')
    | _, _ => none
  | v => some v

def Ch.ren (f : Nat → Option Nat) : Ch → Option Ch
  | .ints k n xs => some (.ints k n xs)
  | .one v => match v.ren f with
    | some v' => some (.one v')
    | none => none

def renB (f : Nat → Option Nat) : List Ch → Option (List Ch)
  | [] => some []
  | c :: cs => match c.ren f, renB f cs with
    | some c', some r => some (c' :: r)
    | _, _ => none

mutual
def AV.ren (f : Nat → Option Nat) : AV → Option AV
  | .s v => match v.ren f with
    | some v' => some (.s v')
    | none => none
  | .agg cs => match renB f cs with
    | some r => some (.agg r)
    | none => none
  | .tup vs => match renL f vs with
    | some r => some (.tup r)
    | none => none
  | .any => some .any
def renL (f : Nat → Option Nat) : List AV → Option (List AV)
  | [] => some []
  | v :: vs => match v.ren f, renL f vs with
    | some v', some r => some (v' :: r)
    | _, _ => none
end

def renBs (f : Nat → Option Nat) : List Blk → Option (List Blk)
  | [] => some []
  | b :: bs => match renB f b, renBs f bs with
    | some b', some r => some (b' :: r)
    | _, _ => none

def insN (ns : List Nat) (n : Nat) : List Nat := match idxN ns n with
  | some _ => ns
  | none => ns ++ [n]

def insL : List Nat → List Nat → List Nat
  | ns, [] => ns
  | ns, m :: ms => insL (insN ns m) ms

/-- The blocks behind the names 'ns' from the i-th on; the names that they lead to are put behind. -/
def closeN : Nat → Nat → List Nat → RM (List Nat × List Blk)
  | 0, _, _ => .fail
  | f + 1, i, ns => match ns[i]? with
    | none => .pure (ns, [])
    | some n => .look n fun b => (closeN f (i + 1) (insL ns (refsB b))).bind fun (r : List Nat × List Blk) => .pure (r.1, b :: r.2)

/-- Values with their blocks, named 0, 1, ..: the names that they had, the values, the blocks. -/
def canon (ns0 : List Nat) (vs : List AV) : RM (List Nat × List AV × List Blk) :=
  (closeN 50 0 (insL ns0 (refsL vs))).bind fun (r : List Nat × List Blk) =>
    match renL (idxN r.1) vs, renBs (idxN r.1) r.2 with
    | some vs', some bs' => .pure (r.1, vs', bs')
    | _, _ => .fail

def nthN (ns : List Nat) (i : Nat) : Option Nat := ns[i]?

def freshN (nx : Nat) : Nat → List Nat
  | 0 => []
  | n + 1 => nx :: freshN (nx + 1) n

/-! What calls do. -/
structure FSem where
  ro : Bool
  run : List AV → List Blk → Option (Tr (AV × List (Option Blk)))

structure Env where
  P : Program
  fs : List (Nat × FSem)
  xs : List (Nat × (List AV → Option (Tr AV)))

def lkF {α : Type} : List (Nat × α) → Nat → Option α
  | [], _ => none
  | (k, v) :: r, t => match Nat.beq k t with
    | true => some v
    | false => lkF r t

/-- All chunks are numbers of one kind. -/
def flatI (k : IntKind) : List Ch → Option (List Nat)
  | [] => some []
  | [.ints k' _ xs] => match decide (k = k') with
    | true => some xs
    | false => none
  | .ints k' _ xs :: cs => match decide (k = k'), flatI k cs with
    | true, some r => some (xs ++ r)
    | _, _ => none
  | .one (.nat k' x) :: cs => match decide (k = k'), flatI k cs with
    | true, some r => some (x :: r)
    | _, _ => none
  | _ => none

/-- Rows of n numbers each. -/
def rowsI (k : IntKind) (n : Nat) : List Ch → Option (List (List Nat))
  | [] => some []
  | .ints k' m xs :: cs => match decide (k = k'), Nat.beq m n, rowsI k n cs with
    | true, true, some r => some (xs :: r)
    | _, _, _ => none
  | _ => none

/-- The numbers of a part of a row. -/
def rowOf (k : IntKind) (m : LK) (off len : Nat) (cs : List Ch) : Option (List Bool × List Nat) :=
  match cs with
  | [.ints k' n xs] => match decide (k = k') with
    | true => match m with
      | .whole => some ([decide (off = 0), decide (len = n)], xs)
      | .pre => some ([decide (off = 0), decide (len ≤ n)], xs.take len)
      | .suf => some ([decide (off + len = n)], xs.drop off)
      | .mid => some ([decide (off + len ≤ n)], (xs.drop off).take len)
    | false => none
  | cs => match subB off len cs with
    | some r => match flatI k r with
      | some xs => some ([], xs)
      | none => none
    | none => none

/-- The bytes of a slice. -/
def bytesOf : SV → RM (List Bool × List Nat)
  | .xsl (.ints .u8 xs) => .pure ([], xs)
  | .nil => .pure ([], [])
  | .sl m b off len 1 => .look b fun cs => .ofO (rowOf .u8 m off len cs)
  | _ => .fail

def bytesAll : List Ch → RM (List Bool × List (List Nat))
  | [] => .pure ([], [])
  | .one v :: cs => (bytesOf v).bind fun (x : List Bool × List Nat) => (bytesAll cs).bind fun (r : List Bool × List (List Nat)) => .pure (x.1 ++ r.1, x.2 :: r.2)
  | _ => .fail

/-- How the elements of a slice type are read. -/
inductive EK where
  | ints (k : IntKind)
  | arrs (k : IntKind) (n : Nat)
  | bss

def flatKind (P : Program) (e : TypeId) : Option (IntKind × Nat) :=
  match zeroB P e with
  | some [.ints k n _] => some (k, n)
  | _ => none

def elemK (P : Program) (t : TypeId) : Option EK :=
  match P.underlying t with
  | some (.slice e) => match P.underlying e with
    | some (.int k) => some (.ints k)
    | some (.slice _) => some .bss
    | _ => match flatKind P e with
      | some (k, n) => some (.arrs k n)
      | none => none
  | _ => none

def xcI (k : IntKind) : Option (List Bool × List Nat) → RM (List Bool × XC)
  | some (r, xs) => .pure (r, .ints k xs)
  | none => .fail

def xcA (k : IntKind) (n : Nat) : Option (List (List Nat)) → RM (List Bool × XC)
  | some xss => .pure ([], .arrs k n xss)
  | none => .fail

def xcB (x : List Bool × List (List Nat)) : RM (List Bool × XC) := .pure (x.1, .bss x.2)

def readSl (ek : EK) : SV → RM (List Bool × XC)
  | .xsl c => match ek, c with
    | .ints k, .ints k' xs => match decide (k = k') with
      | true => .pure ([], .ints k' xs)
      | false => .fail
    | .arrs _ _, .arrs k n xss => .pure ([], .arrs k n xss)
    | .bss, .bss xss => .pure ([], .bss xss)
    | _, _ => .fail
  | .nil => match ek with
    | .ints k => .pure ([], .ints k [])
    | .arrs k n => .pure ([], .arrs k n [])
    | .bss => .pure ([], .bss [])
  | .sl m b off len sz => match ek with
    | .ints k => .look b fun cs => xcI k (rowOf k m off len cs)
    | .arrs k n => match Nat.beq n sz && Nat.ble 1 n with
      | true => .look b fun cs => match subB off (len * sz) cs with
        | some r => xcA k n (rowsI k n r)
        | none => .fail
      | false => .fail
    | .bss => .look b fun cs => match subB off len cs with
      | some r => (bytesAll r).bind xcB
      | none => .fail
  | _ => .fail

def roOne (P : Program) (t : TypeId) : AV → RM (List Bool × AV)
  | .s v => match elemK P t with
    | some ek => (readSl ek v).bind fun (c : List Bool × XC) => .pure (c.1, .s (.xsl c.2))
    | none => .pure ([], .s v)
  | v => .pure ([], v)

/-- Arguments that are slices are handed over as what they read as. -/
def roArgs (P : Program) : List TypeId → List AV → RM (List Bool × List AV)
  | _, [] => .pure ([], [])
  | [], _ :: _ => .fail
  | t :: ts, v :: vs => (roOne P t v).bind fun (c : List Bool × AV) => (roArgs P ts vs).bind fun (r : List Bool × List AV) => .pure (c.1 ++ r.1, c.2 :: r.2)

def ptrsAV : List (Nat × Nat) → List AV
  | [] => []
  | p :: ps => .s (.ptr p.1 p.2) :: ptrsAV ps

def avPtrs : List AV → Option (List (Nat × Nat))
  | [] => some []
  | .s (.ptr b o) :: vs => match avPtrs vs with
    | some r => some ((b, o) :: r)
    | none => none
  | _ => none

def Tr.map {α β : Type} (f : α → Option β) : Tr α → Tr β
  | .leaf a => match f a with
    | some b => .leaf b
    | none => .fail
  | .need c t => .need c (t.map f)
  | .br c x y => .br c (x.map f) (y.map f)
  | .fail => .fail

def backW (ns : List Nat) (bs : List (Option Blk)) : List (Nat × Option Blk) := ns.zip bs

def SV.noX : SV → Bool
  | .xsl _ => false
  | .xptr _ _ => false
  | _ => true

def noXB : List Ch → Bool
  | [] => true
  | .ints _ _ _ :: cs => noXB cs
  | .one v :: cs => v.noX && noXB cs

mutual
def AV.noX : AV → Bool
  | .s v => v.noX
  | .agg cs => noXB cs
  | .tup vs => noXL vs
  | .any => true
def noXL : List AV → Bool
  | [] => true
  | v :: vs => v.noX && noXL vs
end

def noXBs : List (Option Blk) → Bool
  | [] => true
  | some b :: bs => noXB b && noXBs bs
  | none :: bs => noXBs bs

def renOs (f : Nat → Option Nat) : List (Option Blk) → Option (List (Option Blk))
  | [] => some []
  | some b :: bs => match renB f b, renOs f bs with
    | some b', some r => some (some b' :: r)
    | _, _ => none
  | none :: bs => match renOs f bs with
    | some r => some (none :: r)
    | none => none

/-- Names with what is behind them, all there. -/
def liveL : List Nat → List (Option Blk) → Option (List (Nat × Blk))
  | [], [] => some []
  | n :: ns, some b :: bs => match liveL ns bs with
    | some r => some ((n, b) :: r)
    | none => none
  | _, _ => none

def disjN (ns : List Nat) : List Nat → Bool
  | [] => true
  | n :: r => match idxN ns n with
    | some _ => false
    | none => disjN ns r

/-- What a call leaves, in the caller's names. -/
def callOut (ro : Bool) (ns : List Nat) (nx : Nat) (r : AV × List (Option Blk)) : Option Out :=
  match Nat.ble ns.length r.2.length && (!ro || (r.1.noX && noXBs r.2)) with
  | true => match r.1.ren (nthN (ns ++ freshN nx (r.2.length - ns.length))), renOs (nthN (ns ++ freshN nx (r.2.length - ns.length))) r.2 with
    | some v, some bs => match liveL (freshN nx (r.2.length - ns.length)) (bs.drop ns.length) with
      | some nw => some ⟨v, backW ns (bs.take ns.length), nw⟩
      | none => none
    | _, _ => none
  | false => none

def callK (F : FSem) (nx : Nat) (conds : List Bool) (ron : List Nat) (c : List Nat × List AV × List Blk) : RM (Tr Out) :=
  match disjN c.1 ron with
  | true => match F.run c.2.1 c.2.2 with
    | some t => .pure (Tr.needs conds (t.map (callOut F.ro c.1 nx)))
    | none => .fail
  | false => .fail

/-- A call of function f. -/
def callSem (E : Env) (f : Nat) (ts : List TypeId) (nx : Nat) (args : List AV) : RM (Tr Out) :=
  match lkF E.fs f with
  | some F => match F.ro with
    | true => (RM.tr (roArgs E.P ts args)).bind fun (a : (List Bool × List AV) × List Nat) => (canon [] a.1.2).bind (callK F nx a.1.1 a.2)
    | false => (canon [] args).bind (callK F nx [] [])
  | none => match lkF E.xs f with
    | some F => match F args with
      | some t => .pure (t.map fun v => match refsL [v] with
        | [] => some (Out.val v)
        | _ => none)
      | none => .fail
    | none => .fail

/-! Numbers. -/
def isU : IntKind → Bool
  | .u8 | .u16 | .u32 | .u64 => true
  | _ => false

def cmpN (op : BinOp) (a b : Nat) : Option SV := match op with
  | .eql => some (.bool (decide (a = b)))
  | .neq => some (.bool (!decide (a = b)))
  | .lss => some (.bool (decide (a < b)))
  | .leq => some (.bool (decide (a ≤ b)))
  | .gtr => some (.bool (decide (b < a)))
  | .geq => some (.bool (decide (b ≤ a)))
  | _ => none

def cmpZ (op : BinOp) (a b : Int) : Option SV := match op with
  | .eql => some (.bool (decide (a = b)))
  | .neq => some (.bool (!decide (a = b)))
  | .lss => some (.bool (decide (a < b)))
  | .leq => some (.bool (decide (a ≤ b)))
  | .gtr => some (.bool (decide (b < a)))
  | .geq => some (.bool (decide (b ≤ a)))
  | _ => none

def binU (op : BinOp) (k : IntKind) (a b : Nat) : Option (Tr SV) := match op with
  | .add => some (.leaf (.nat k ((a + b) % lim k)))
  | .sub => some (.leaf (.nat k ((a + lim k - b) % lim k)))
  | .mul => some (.leaf (.nat k (a * b % lim k)))
  | .quo => some (.need (decide (0 < b)) (.leaf (.nat k (a / b))))
  | .rem => some (.need (decide (0 < b)) (.leaf (.nat k (a % b))))
  | .and => some (.leaf (.nat k (a &&& b)))
  | .or => some (.leaf (.nat k (a ||| b)))
  | .xor => some (.leaf (.nat k (a ^^^ b)))
  | op => match cmpN op a b with
    | some v => some (.leaf v)
    | none => none

/-- 'a - b' where both are counted down. -/
def subT : Nat → Nat → SV
  | 0, a => .nat .i64 a
  | b + 1, 0 => .int (.negSucc b)
  | b + 1, a + 1 => subT b a

def subS (a b : Nat) : SV := subT b a

inductive SubMode where
  | nat | down | int

def binI (m : SubMode) (op : BinOp) (a b : Nat) : Option (Tr SV) := match op with
  | .add => some (.need (decide (a + b < 9223372036854775808)) (.leaf (.nat .i64 (a + b))))
  | .sub => match m with
    | .nat => some (.need (decide (b ≤ a)) (.leaf (.nat .i64 (a - b))))
    | .down => some (.leaf (subS a b))
    | .int => some (.leaf (.int ((a : Int) - (b : Int))))
  | .mul => some (.need (decide (a * b < 9223372036854775808)) (.leaf (.nat .i64 (a * b))))
  | .quo => some (.need (decide (0 < b)) (.leaf (.nat .i64 (a / b))))
  | .rem => some (.need (decide (0 < b)) (.leaf (.nat .i64 (a % b))))
  | .and => some (.leaf (.nat .i64 (a &&& b)))
  | .or => some (.leaf (.nat .i64 (a ||| b)))
  | .xor => some (.leaf (.nat .i64 (a ^^^ b)))
  | op => match cmpN op a b with
    | some v => some (.leaf v)
    | none => none

def inI (z : Int) : Bool := decide (-9223372036854775808 ≤ z) && decide (z < 9223372036854775808)

def binZ (op : BinOp) (a b : Int) : Option (Tr SV) := match op with
  | .add => some (.need (inI (a + b)) (.leaf (.int (a + b))))
  | .sub => some (.need (inI (a - b)) (.leaf (.int (a - b))))
  | .mul => some (.need (inI (a * b)) (.leaf (.int (a * b))))
  | .quo => some (.need (decide (0 < b)) (.leaf (.int (a.tdiv b))))
  | .rem => some (.need (decide (0 < b)) (.leaf (.int (a.tmod b))))
  | op => match cmpZ op a b with
    | some v => some (.leaf v)
    | none => none

def shN (op : BinOp) (k : IntKind) (a s : Nat) : Option (Tr SV) := match op with
  | .shl => match isU k with
    | true => some (.leaf (.nat k (a * 2 ^ s % lim k)))
    | false => match k with
      | .i64 => some (.need (decide (s < 64) && decide (a * 2 ^ s < 9223372036854775808)) (.leaf (.nat .i64 (a * 2 ^ s))))
      | _ => none
  | .shr => match isU k with
    | true => some (.leaf (.nat k (a / 2 ^ s)))
    | false => match k with
      | .i64 => some (.leaf (.nat .i64 (a / 2 ^ s)))
      | _ => none
  | _ => none

def isSh : BinOp → Bool
  | .shl | .shr => true
  | _ => false

def binSem (m : SubMode) (op : BinOp) : SV → SV → Option (Tr SV)
  | .nat k a, .nat k' b => match isSh op with
    | true => shN op k a b
    | false => match decide (k = k') with
      | true => match isU k with
        | true => binU op k a b
        | false => match k with
          | .i64 => binI m op a b
          | _ => none
      | false => none
  | .nat k a, .int z => match isSh op with
    | true => match shN op k a z.toNat with
      | some t => some (.need (decide (0 ≤ z)) t)
      | none => none
    | false => match k with
      | .i64 => binZ op a z
      | _ => none
  | .int z, .nat k b => match isSh op with
    | true => none
    | false => match k with
      | .i64 => binZ op z b
      | _ => none
  | .int y, .int z => binZ op y z
  | .str a, .str b => match op with
    | .add => some (.need (decide (a.length + b.length < 9223372036854775808)) (.leaf (.str (a ++ b))))
    | .eql => some (.leaf (.bool (decide (a = b))))
    | .neq => some (.leaf (.bool (!decide (a = b))))
    | _ => none
  | _, _ => none

def convI (dst : IntKind) : SV → Option (Tr SV)
  | .nat k n => match Nat.ble (lim k) (lim dst) with
    | true => some (.leaf (.nat dst n))
    | false => match isU dst with
      | true => some (.leaf (.nat dst (n % lim dst)))
      | false => some (.need (decide (n < lim dst)) (.leaf (.nat dst n)))
  | .int z => match isU dst with
    | true => some (.leaf (.nat dst (z % (lim dst : Int)).toNat))
    | false => match dst with
      | .i64 => some (.leaf (.int z))
      | _ => none
  | _ => none

/-- An index. -/
def asIx : SV → Option (List Bool × Nat)
  | .nat _ n => some ([], n)
  | .int z => some ([decide (0 ≤ z)], z.toNat)
  | _ => none

def takeN (xs : List Nat) : Option Nat → List Nat
  | none => xs
  | some h => xs.take h

def dropN (xs : List Nat) : Option Nat → List Nat
  | none => xs
  | some l => xs.drop l

def takeNN (xs : List (List Nat)) : Option Nat → List (List Nat)
  | none => xs
  | some h => xs.take h

def dropNN (xs : List (List Nat)) : Option Nat → List (List Nat)
  | none => xs
  | some l => xs.drop l

def XC.cut (lo hi : Option Nat) : XC → XC
  | .ints k xs => .ints k (dropN (takeN xs hi) lo)
  | .arrs k n xss => .arrs k n (dropNN (takeNN xss hi) lo)
  | .bss xss => .bss (dropNN (takeNN xss hi) lo)

/-- The bounds of a slice expression over something of length n: what must hold, low, high. -/
def bounds (n : Nat) (lo hi : Option AV) : Option (List Bool × Option Nat × Option Nat) :=
  match hi with
  | none => match lo with
    | none => some ([], none, none)
    | some (.s l) => match asIx l with
      | some (r, l) => some (r ++ [decide (l ≤ n)], some l, none)
      | none => none
    | _ => none
  | some (.s h) => match asIx h with
    | some (rh, h) => match lo with
      | none => some (rh ++ [decide (h ≤ n)], none, some h)
      | some (.s l) => match asIx l with
        | some (r, l) => some (rh ++ [decide (h ≤ n)] ++ r ++ [decide (l ≤ h)], some l, some h)
        | none => none
      | _ => none
    | none => none
  | _ => none

def lenOfCut (n : Nat) : Option Nat → Option Nat → Nat
  | none, none => n
  | some l, none => n - l
  | none, some h => h
  | some l, some h => h - l

def LK.cut : LK → Option Nat → Option Nat → LK
  | m, none, none => m
  | .whole, some _, none => .suf
  | .suf, some _, none => .suf
  | .whole, none, some _ => .pre
  | .pre, none, some _ => .pre
  | _, _, _ => .mid

def cutAt (m : LK) (b off n sz : Nat) (lo hi : Option Nat) : SV :=
  .sl (m.cut lo hi) b (match lo with
    | none => off
    | some l => addOff off (mulSz l sz)) (lenOfCut n lo hi) sz

def oneT (v : SV) : Tr Out := .leaf (Out.val (.s v))

def svT (t : Tr SV) : Tr Out := t.map fun v => some (Out.val (.s v))

def fillB (f : Nat → Option (Nat × Nat)) : List (Nat × AV) → List Ch → Option (List Ch)
  | [], cs => some cs
  | (i, v) :: r, cs => match f i, v.cells with
    | some (off, sz), some new => match Nat.beq (sizeB new) sz with
      | true => match putB off new cs with
        | some cs' => fillB f r cs'
        | none => none
      | false => none
    | _, _ => none

/-- Cells that are numbers of one kind, each. -/
def onesI (k : IntKind) : List (Nat × AV) → Nat → Option (List Nat)
  | [], _ => some []
  | p :: r, j => match p.2 with
    | .s (.nat k' x) => match decide (k = k') && Nat.beq p.1 j with
      | true => match onesI k r (j + 1) with
        | some xs => some (x :: xs)
        | none => none
      | false => none
    | _ => none

def repB (cs : List Ch) : Nat → List Ch
  | 0 => []
  | n + 1 => cs ++ repB cs n

def RM.needs (r : List Bool) (m : RM (Tr Out)) : RM (Tr Out) := m.bind fun t => .pure (Tr.needs r t)

/-! The operations, each with the values of its operands. -/
def pickSem : AV → AV → AV → RM (Tr Out)
  | .s (.bool t), .s (.bool x), .s (.bool y) => .pure (oneT (.bool (cond t x y)))
  | .s (.bool t), va, vb => match t with
    | true => .pure (.leaf (Out.val va))
    | false => .pure (.leaf (Out.val vb))
  | _, _, _ => .fail

def newSem (nx : Nat) : Option (List Ch) → RM (Tr Out)
  | some z => .pure (.leaf ⟨.s (.ptr nx 0), [], [(nx, z)]⟩)
  | none => .fail

def placeS (P : Program) (fs : Array Field) (i : Nat) : Option (Nat × Nat) := match fs[i]? with
  | some f => match tySize P f.type with
    | some sz => some (f.offset, sz)
    | none => none
  | none => none

def aggO : Option (List Ch) → RM (Tr Out)
  | some cs => .pure (.leaf (Out.val (.agg cs)))
  | none => .fail

def buildSem (P : Program) (t : TypeId) (ps : List (Nat × AV)) : RM (Tr Out) :=
  match zeroB P t with
  | some z => match P.underlying t with
    | some (.struct fs) => match fs.toList.all fun f => (tySize P f.type).isSome with
      | true => aggO (fillB (placeS P fs) ps z)
      | false => .fail
    | some (.array _ e) => match tySize P e with
      | some sz => aggO (fillB (fun i => some (i * sz, sz)) ps z)
      | none => .fail
    | _ => .fail
  | none => .fail

def rowO (nx n sz : Nat) : Option (List Ch) → RM (Tr Out)
  | some cs => .pure (.leaf ⟨.s (.sl .whole nx 0 n sz), [], [(nx, cs)]⟩)
  | none => .fail

def onesO (k : IntKind) (n : Nat) : Option (List Nat) → Option (List Ch)
  | some xs => some [.ints k n xs]
  | none => none

/-- How many numbers append may lay anew behind nothing: bytes by the form's own reach. -/
def capK : IntKind → Nat
  | .u8 => 140737488355328
  | _ => 4398046511104

def elemInt (P : Program) (t : TypeId) : Option IntKind := match P.underlying t with
  | some (.slice e) => match P.underlying e with
    | some (.int k) => match P.info? e with
      | some i => match Nat.beq i.size 1 && (Nat.ble i.bytes 8 && Nat.ble (capK k * i.bytes) 140737488355328), i.zero with
        | true, some (.int k' (.ofNat 0)) => match decide (k = k') with
          | true => some k
          | false => none
        | _, _ => none
      | none => none
    | _ => none
  | _ => none

def buildSliceSem (P : Program) (nx : Nat) (t : TypeId) (n : Nat) (ps : List (Nat × AV)) : RM (Tr Out) :=
  match P.underlying t with
  | some (.slice e) => match Nat.ble 65536 n with
    | true => .fail
    | false => match Nat.beq ps.length n with
      | true => match elemInt P t with
        | some k => rowO nx n 1 (onesO k n (onesI k ps 0))
        | none => match zeroB P e with
          | some z => match tySize P e with
            | some sz => match Nat.ble sz 256 with
              | true => rowO nx n sz (match Nat.beq (sizeB z) sz && Nat.ble 1 sz with
                | true => fillB (fun i => some (i * sz, sz)) ps (repB z n)
                | false => none)
              | false => .fail
            | none => .fail
          | none => .fail
      | false => .fail
  | _ => .fail

def cellO : Option (List Bool × SV) → RM (Tr Out)
  | some (r, v) => .pure (Tr.needs r (oneT v))
  | none => .fail

def loadPtr (P : Program) (t : TypeId) (b off : Nat) : RM (Tr Out) :=
  .look b fun cs => match isAggT P t with
    | some true => match tySize P t with
      | some sz => aggO (subB off sz cs)
      | none => .fail
    | some false => cellO (getC cs off)
    | none => .fail

def loadX (P : Program) (t : TypeId) (c : XC) (i : Nat) : RM (Tr Out) :=
  match isAggT P t with
  | some false => match c with
    | .ints k xs => .pure (.need (decide (i < xs.length)) (oneT (.nat k (xs.getD i 0))))
    | .bss xss => .pure (.need (decide (i < xss.length)) (oneT (.xsl (.ints .u8 (xss.getD i [])))))
    | .arrs _ _ _ => .fail
  | some true => match tySize P t with
    | some sz => match c with
      | .ints k xs => .pure (.need (decide (i + sz ≤ xs.length)) (.leaf (Out.val (.agg [.ints k sz ((xs.drop i).take sz)]))))
      | .arrs k n xss => match Nat.beq n sz with
        | true => .pure (.need (decide (i < xss.length)) (.leaf (Out.val (.agg [.ints k n (xss.getD i [])]))))
        | false => .fail
      | .bss _ => .fail
    | none => .fail
  | none => .fail

def loadSem (P : Program) (t : TypeId) : AV → RM (Tr Out)
  | .s (.ptr b off) => loadPtr P t b off
  | .s (.xptr c i) => loadX P t c i
  | _ => .fail

def storeO (b : Nat) : Option (List Bool × List Ch) → RM (Tr Out)
  | some (r, cs') => .pure (Tr.needs r (.leaf ⟨.any, [(b, some cs')], []⟩))
  | none => .fail

def putO : Option (List Ch) → Option (List Bool × List Ch)
  | some cs => some ([], cs)
  | none => none

def storeSem (P : Program) (t : TypeId) : AV → AV → RM (Tr Out)
  | .s (.ptr b off), .s v => match tySize P t with
    | some sz => match Nat.beq sz 1 with
      | true => .look b fun cs => storeO b (setC v cs off)
      | false => .fail
    | none => .fail
  | .s (.ptr b off), .agg new => match tySize P t with
    | some sz => match Nat.beq (sizeB new) sz with
      | true => .look b fun cs => storeO b (putO (putB off new cs))
      | false => .fail
    | none => .fail
  | _, _ => .fail

def nilCheckSem : AV → RM (Tr Out)
  | .s (.ptr b off) => .pure (oneT (.ptr b off))
  | _ => .fail

def svO : Option (Tr SV) → RM (Tr Out)
  | some t => .pure (svT t)
  | none => .fail

def eqO (op : BinOp) : Option Bool → RM (Tr Out)
  | some t => match op with
    | .eql => .pure (oneT (.bool t))
    | .neq => .pure (oneT (.bool (!t)))
    | _ => .fail
  | none => .fail

/-- Two arrays of numbers. -/
def eqAgg (P : Program) (t : TypeId) : List Ch → List Ch → Option Bool
  | [.ints k n xs], [.ints k' n' ys] => match decide (k = k') && Nat.beq n n' with
    | true => match P.underlying t with
      | some (.array m e) => match Nat.beq n m, P.underlying e with
        | true, some (.int k'') => match tySize P e, decide (k = k''), P.eqGuardType P.depth t with
          | some 1, true, false => some (decide (xs = ys))
          | _, _, _ => none
        | _, _ => none
      | _ => none
    | false => none
  | _, _ => none

def binOpSem (P : Program) (m : SubMode) (op : BinOp) (t : TypeId) : AV → AV → RM (Tr Out)
  | .s (.bool a), .s (.bool b) => match P.underlying t with
    | some .bool => eqO op (some (a == b))
    | _ => .fail
  | .s a, .s b => svO (binSem m op a b)
  | .agg a, .agg b => eqO op (eqAgg P t a b)
  | _, _ => .fail

def unSem (op : UnOp) : AV → RM (Tr Out)
  | .s (.bool b) => match op with
    | .not => .pure (oneT (.bool (!b)))
    | _ => .fail
  | .s (.nat k n) => match op with
    | .xor => match isU k with
      | true => .pure (oneT (.nat k (lim k - 1 - n)))
      | false => .fail
    | _ => .fail
  | _ => .fail

def strT (xs : List Nat) : RM (Tr Out) := .pure (oneT (.str xs))

def toStr (P : Program) (src : TypeId) : SV → RM (Tr Out)
  | .str s => strT s
  | v => match P.underlying src with
    | some (.slice e) => match P.underlying e with
      | some (.int .u8) => (bytesOf v).bind fun (x : List Bool × List Nat) => RM.needs x.1 (strT x.2)
      | _ => .fail
    | _ => .fail

def toBytes (P : Program) (nx : Nat) (e : TypeId) : SV → RM (Tr Out)
  | .str s => match P.underlying e with
    | some (.int .u8) => .pure (.leaf ⟨.s (.sl .whole nx 0 s.length 1), [], [(nx, [.ints .u8 s.length s])]⟩)
    | _ => .fail
  | _ => .fail

def convSem (P : Program) (nx : Nat) (src dst : TypeId) : AV → RM (Tr Out)
  | .s v => match P.underlying src with
    | some _ => match P.underlying dst with
      | some (.int k) => svO (convI k v)
      | some .string => toStr P src v
      | some (.slice e) => toBytes P nx e v
      | _ => .fail
    | none => .fail
  | _ => .fail

def toArrSem (P : Program) (t : TypeId) : AV → RM (Tr Out)
  | .s (.sl _ b off len _) => match P.underlying t with
    | some (.array (n + 1) _) => .pure (.need (decide (n + 1 ≤ len)) (oneT (.ptr b off)))
    | _ => .fail
  | .s (.xsl (.ints k xs)) => match P.underlying t with
    | some (.array (n + 1) _) => .pure (.need (decide (n + 1 ≤ xs.length)) (oneT (.xptr (.ints k xs) 0)))
    | _ => .fail
  | _ => .fail

def makeFuncSem (f : Nat) (first cap : List AV) : RM (Tr Out) :=
  match avPtrs first with
  | some a => match avPtrs cap with
    | some c => .pure (oneT (.fn f a c))
    | none => .fail
  | none => .fail

def makeO (nx : Nat) (k : IntKind) (l c : Option (List Bool × Nat)) : RM (Tr Out) :=
  match l with
  | some (rl, l) => match c with
    | some (rc, c) => .pure (Tr.needs (rl ++ (rc ++ [decide (l ≤ c), decide (c ≤ 4398046511104)]))
        (.leaf ⟨.s (.sl .whole nx 0 l 1), [], [(nx, [.ints k l (List.replicate l 0)])]⟩))
    | none => .fail
  | none => .fail

def makeSliceSem (P : Program) (nx : Nat) (t : TypeId) : AV → AV → RM (Tr Out)
  | .s l, .s c => match elemInt P t with
    | some k => makeO nx k (asIx l) (asIx c)
    | none => .fail
  | _, _ => .fail

def cutO (f : Option Nat → Option Nat → SV) : Option (List Bool × Option Nat × Option Nat) → RM (Tr Out)
  | some (r, l, h) => .pure (Tr.needs r (oneT (f l h)))
  | none => .fail

/-- An array that is a block as a whole. -/
def arrK (off n size : Nat) : LK := match Nat.beq off 0 && Nat.beq n size with
  | true => .whole
  | false => .mid

def slicePtr (P : Program) (t : TypeId) (b off : Nat) (lo hi : Option AV) : RM (Tr Out) :=
  match P.underlying t with
  | some (.array n e) => match tySize P e with
    | some sz => .look b fun cs => match Nat.ble (off + n * sz) (sizeB cs) with
      | true => cutO (cutAt (arrK off (n * sz) (sizeB cs)) b off n sz) (bounds n lo hi)
      | false => .fail
    | none => .fail
  | _ => .fail

def sliceSl (P : Program) (t : TypeId) (sz len : Nat) (f : Option Nat → Option Nat → SV) (lo hi : Option AV) : RM (Tr Out) :=
  match P.underlying t with
  | some (.slice e) => match tySize P e with
    | some sz' => match Nat.beq sz sz' with
      | true => cutO f (bounds len lo hi)
      | false => .fail
    | none => .fail
  | _ => .fail

def sliceSem (P : Program) (t : TypeId) (lo hi : Option AV) : AV → RM (Tr Out)
  | .s (.ptr b off) => slicePtr P t b off lo hi
  | .s (.sl m b off len sz) => sliceSl P t sz len (cutAt m b off len sz) lo hi
  | .s (.xsl c) => sliceSl P t c.sz c.len (fun l h => .xsl (c.cut l h)) lo hi
  | .s (.str s) => match P.underlying t with
    | some .string => cutO (fun l h => .str (dropN (takeN s h) l)) (bounds s.length lo hi)
    | _ => .fail
  | _ => .fail

def fieldAddrSem (P : Program) (t : TypeId) (f : Nat) : AV → RM (Tr Out)
  | .s (.ptr b off) => match P.underlying t with
    | some (.struct fs) => match placeS P fs f with
      | some (o, _ + 1) => .pure (oneT (.ptr b (addOff off o)))
      | _ => .fail
    | _ => .fail
  | _ => .fail

def partSem (P : Program) (e : TypeId) (off : Nat) (cs : List Ch) : RM (Tr Out) :=
  match isAggT P e with
  | some true => match tySize P e with
    | some sz => aggO (subB off sz cs)
    | none => .fail
  | some false => cellO (getC cs off)
  | none => .fail

def fieldSem (P : Program) (t : TypeId) (f : Nat) : AV → RM (Tr Out)
  | .agg cs => match P.underlying t with
    | some (.struct fs) => match fs[f]? with
      | some fd => partSem P fd.type fd.offset cs
      | none => .fail
    | _ => .fail
  | _ => .fail

def withIx (i : AV) (f : List Bool → Nat → RM (Tr Out)) : RM (Tr Out) :=
  match i with
  | .s iv => match asIx iv with
    | some (r, i) => f r i
    | none => .fail
  | _ => .fail

def ixSl (P : Program) (t : TypeId) (sz len : Nat) (v : SV) (r : List Bool) (i : Nat) : RM (Tr Out) :=
  match P.underlying t with
  | some (.slice e) => match tySize P e with
    | some sz' => match Nat.beq sz sz' with
      | true => .pure (Tr.needs (r ++ [decide (i < len)]) (oneT v))
      | false => .fail
    | none => .fail
  | _ => .fail

def indexAddrSem (P : Program) (t : TypeId) (x i : AV) : RM (Tr Out) := withIx i fun r i =>
  match x with
  | .s (.ptr b off) => match P.underlying t with
    | some (.array n e) => match tySize P e with
      | some sz => .pure (Tr.needs (r ++ [decide (i < n)]) (oneT (.ptr b (addOff off (mulSz i sz)))))
      | none => .fail
    | _ => .fail
  | .s (.sl _ b off len sz) => ixSl P t sz len (.ptr b (addOff off (mulSz i sz))) r i
  | .s (.xsl c) => ixSl P t c.sz c.len (.xptr c i) r i
  | _ => .fail

def ixArr (P : Program) (e : TypeId) (n : Nat) (cs : List Ch) (r : List Bool) (i : Nat) : RM (Tr Out) :=
  match isAggT P e with
  | some false => match tySize P e with
    | some sz => match Nat.beq sz 1 with
      | true => match getC cs i with
        | some (r', v) => .pure (Tr.needs (r ++ (decide (i < n) :: r')) (oneT v))
        | none => .fail
      | false => .fail
    | none => .fail
  | some true => match tySize P e with
    | some sz => match subB (i * sz) sz cs with
      | some cs' => .pure (Tr.needs (r ++ [decide (i < n)]) (.leaf (Out.val (.agg cs'))))
      | none => .fail
    | none => .fail
  | none => .fail

def indexSem (P : Program) (t : TypeId) (x i : AV) : RM (Tr Out) := withIx i fun r i =>
  match x with
  | .agg cs => match P.underlying t with
    | some (.array n e) => ixArr P e n cs r i
    | _ => .fail
  | .s (.str s) => match P.underlying t with
    | some .string => .pure (Tr.needs (r ++ [decide (i < s.length)]) (oneT (.nat .u8 (s.getD i 0))))
    | _ => .fail
  | _ => .fail

def extractSem (i : Nat) : AV → RM (Tr Out)
  | .tup vs => match vs[i]? with
    | some v => .pure (.leaf (Out.val v))
    | none => .fail
  | _ => .fail

def natT (n : Nat) : RM (Tr Out) := .pure (.need (decide (n < 9223372036854775808)) (oneT (.nat .i64 n)))

def lenSem (P : Program) (t : TypeId) : AV → RM (Tr Out)
  | .s (.str s) => match P.underlying t with
    | some .string => natT s.length
    | _ => .fail
  | .s v => match P.underlying t with
    | some (.slice _) => match v with
      | .sl _ _ _ n _ => natT n
      | .nil => natT 0
      | .xsl c => natT c.len
      | _ => .fail
    | _ => .fail
  | _ => .fail

def minSem : AV → AV → RM (Tr Out)
  | .s (.nat .i64 a), .s (.nat .i64 b) => natT (min a b)
  | _, _ => .fail

/-- The length of a source, as it was told. -/
def srcLen (ys : List Nat) : SV → Nat
  | .sl _ _ _ len _ => len
  | _ => ys.length

def catR (nx b len : Nat) (k : IntKind) (ys : List Nat) (m : Nat) : Option (List Bool × List Nat) → RM (Tr Out)
  | some (r, xs) => .pure (Tr.needs (r ++ [decide (len + m ≤ 4398046511104)])
      (.leaf ⟨.s (.sl .whole nx 0 (len + m) 1), [(b, none)], [(nx, [.ints k (len + m) (xs ++ ys)])]⟩))
  | none => .fail

def catO (nx : Nat) (k : IntKind) (ys : List Nat) (m : Nat) : SV → RM (Tr Out)
  | .nil => .pure (.need (decide (m ≤ capK k)) (.leaf ⟨.s (.sl .whole nx 0 m 1), [], [(nx, [.ints k m ys])]⟩))
  | .sl q b off len 1 => .look b fun cs => catR nx b len k ys m (rowOf k q off len cs)
  | _ => .fail

def catSrc (k : IntKind) : SV → RM (List Bool × XC)
  | .str s => match k with
    | .u8 => .pure ([], .ints .u8 s)
    | _ => .fail
  | x => readSl (.ints k) x

def notInt (P : Program) (t : TypeId) : Bool := match P.underlying t with
  | some (.slice _) => true
  | some .string => true
  | _ => false

def withI (k : IntKind) (f : List Nat → RM (Tr Out)) (c : List Bool × XC) : RM (Tr Out) :=
  match c.2 with
  | .ints k' ys => match decide (k = k') with
    | true => RM.needs c.1 (f ys)
    | false => .fail
  | _ => .fail

/-- A row whose elements are one cell each. -/
def oneElem (P : Program) (t : TypeId) : Bool := match P.underlying t with
  | some (.slice e) => match P.info? e with
    | some i => match i.zero with
      | some z => Nat.beq i.size 1 && Nat.ble i.bytes 32 && Nat.beq z.cells.size 1
      | none => false
    | none => false
  | _ => false

def rowSrc : SV → RM (List Ch × Nat)
  | .nil => .pure ([], 0)
  | .sl _ b off len 1 => .look b fun cs => match subB off len cs with
    | some r => .pure (r, len)
    | none => .fail
  | _ => .fail

def rowCat (nx : Nat) (ds : List Ch) (n : Nat) : SV → RM (Tr Out)
  | .nil => .pure (.need (decide (n ≤ 1099511627776)) (.leaf ⟨.s (.sl .whole nx 0 n 1), [], [(nx, ds)]⟩))
  | .sl _ b off len 1 => .look b fun cs => match subB off len cs with
    | some r => .pure (.need (decide (len + n ≤ 1099511627776)) (.leaf ⟨.s (.sl .whole nx 0 (len + n) 1), [(b, none)], [(nx, r ++ ds)]⟩))
    | none => .fail
  | _ => .fail

def appendRow (P : Program) (nx : Nat) (t : TypeId) (a x : SV) : RM (Tr Out) := match oneElem P t with
  | true => (rowSrc x).bind fun (p : List Ch × Nat) => rowCat nx p.1 p.2 a
  | false => .fail

def appendSem (P : Program) (nx : Nat) (t t2 : TypeId) : AV → AV → RM (Tr Out)
  | .s a, .s x => match notInt P t2 with
    | true => match elemInt P t with
      | some k => (catSrc k x).bind (withI k fun ys => catO nx k ys (srcLen ys x) a)
      | none => appendRow P nx t a x
    | false => .fail
  | _, _ => .fail

def copyO (k : IntKind) (ys : List Nat) (m : Nat) : SV → RM (Tr Out)
  | .sl _ b off len 1 => .look b fun cs => match cs with
    | [.ints k' n xs] => match decide (k = k') with
      | true => .pure (Tr.needs [decide (addOff off len ≤ n), decide (len ≤ 4398046511104)]
          (.leaf ⟨.s (.nat .i64 (min m len)), [(b, some [.ints k n (xs.take off ++ (ys.take (min m len) ++ xs.drop (off + min m len)))])], []⟩))
      | false => .fail
    | _ => .fail
  | _ => .fail

def copySem (P : Program) (t : TypeId) : AV → AV → RM (Tr Out)
  | .s a, .s x => match elemInt P t with
    | some k => (catSrc k x).bind (withI k fun ys => copyO k ys (srcLen ys x) a)
    | none => .fail
  | _, _ => .fail

def builtinSem (P : Program) (nx : Nat) (b : Builtin) (ts : List TypeId) (args : List AV) : RM (Tr Out) :=
  match b with
  | .len => match args, ts with
    | [x], [t] => lenSem P t x
    | _, _ => .fail
  | .min => match args with
    | [x, y] => minSem x y
    | _ => .fail
  | .append => match args, ts with
    | [x, y], [t, t2] => appendSem P nx t t2 x y
    | _, _ => .fail
  | .copy => match args, ts with
    | [x, y], [t, _] => copySem P t x y
    | _, _ => .fail
  | _ => .fail

def callOp (E : Env) (nx : Nat) (ρ : Operand → AV) (c : Call) : RM (Tr Out) :=
  match c.callee with
  | .value (.func f) => callSem E f c.argTypes.toList nx (c.args.toList.map ρ)
  | .value f => match ρ f with
    | .s (.fn f first cap) => callSem E f c.argTypes.toList nx (ptrsAV first ++ (c.args.toList.map ρ ++ ptrsAV cap))
    | _ => .fail
  | .builtin b => builtinSem E.P nx b c.argTypes.toList (c.args.toList.map ρ)
  | _ => .fail

def refAV (ρ : Operand → AV) : Option Operand → Option AV
  | none => none
  | some x => some (ρ x)

def partsAV (ρ : Operand → AV) (ps : Array (Nat × Operand)) : List (Nat × AV) := ps.toList.map fun p => (p.1, ρ p.2)

/-- One operation. -/
def opSem (E : Env) (m : SubMode) (ρ : Operand → AV) (nx : Nat) (o : Op) : RM (Tr Out) :=
  match o with
  | .move x => .pure (.leaf (Out.val (ρ x)))
  | .assign x => .pure (.leaf (Out.val (ρ x)))
  | .pick c a b => pickSem (ρ c) (ρ a) (ρ b)
  | .alloc t => newSem nx (zeroB E.P t)
  | .box _ x => newSem nx (ρ x).cells
  | .build t ps => buildSem E.P t (partsAV ρ ps)
  | .buildSlice t n ps => buildSliceSem E.P nx t n (partsAV ρ ps)
  | .load t x => loadSem E.P t (ρ x)
  | .store t x y => storeSem E.P t (ρ x) (ρ y)
  | .nilCheck x => nilCheckSem (ρ x)
  | .binOp op t x y _ => binOpSem E.P m op t (ρ x) (ρ y)
  | .unOp op _ x => unSem op (ρ x)
  | .convert src dst x => convSem E.P nx src dst (ρ x)
  | .sliceToArrayPointer t x => toArrSem E.P t (ρ x)
  | .makeFunc (.func f) first cap => makeFuncSem f (first.toList.map ρ) (cap.toList.map ρ)
  | .makeSlice t l c => makeSliceSem E.P nx t (ρ l) (ρ c)
  | .slice t x lo hi none => sliceSem E.P t (refAV ρ lo) (refAV ρ hi) (ρ x)
  | .fieldAddr t x f => fieldAddrSem E.P t f (ρ x)
  | .field t x f => fieldSem E.P t f (ρ x)
  | .indexAddr t x i => indexAddrSem E.P t (ρ x) (ρ i)
  | .index t x i => indexSem E.P t (ρ x) (ρ i)
  | .extract x i => extractSem i (ρ x)
  | .call c => callOp E nx ρ c
  | _ => .fail

/-! States. -/
structure St where
  T : List (Nat × AV)
  H : List (Nat × Blk)
  nx : Nat

def lkT : List (Nat × AV) → Nat → AV
  | [], _ => .any
  | (k, v) :: r, t => match Nat.beq k t with
    | true => v
    | false => lkT r t

def upT (d : Nat) (v : AV) : List (Nat × AV) → List (Nat × AV)
  | [] => [(d, v)]
  | (k, u) :: r => match Nat.beq k d with
    | true => (d, v) :: r
    | false => (k, u) :: upT d v r

def upH : Nat → Option Blk → List (Nat × Blk) → List (Nat × Blk)
  | _, none, [] => []
  | n, some c, [] => [(n, c)]
  | n, oc, (k, u) :: r => match Nat.beq k n with
    | true => match oc with
      | some c => (n, c) :: r
      | none => upH n none r
    | false => (k, u) :: upH n oc r

def upHs : List (Nat × Option Blk) → List (Nat × Blk) → List (Nat × Blk)
  | [], h => h
  | (n, c) :: r, h => upHs r (upH n c h)

def St.val (s : St) : Operand → AV
  | .tmp t => lkT s.T t
  | .const v => litAV v
  | _ => .any

def St.put (s : St) (dst : Option Nat) (v : AV) : St := match dst with
  | some d => { s with T := upT d v s.T }
  | none => s

def St.app (s : St) (dst : Option Nat) (o : Out) : St :=
  { T := match dst with
      | some d => upT d o.v s.T
      | none => s.T
    H := o.nw ++ upHs o.wr s.H
    nx := s.nx + o.nw.length }

end Go.Proofs.Ytgebgjhjegadpaa

namespace Go.Proofs.Ytgebgjhjegadpaa
open Go

structure Cx where
  w0 : World
  X : Nat → Prop

structure Pl where
  blk : Nat
  base : Nat
  size : Nat

abbrev Bm := Nat → Option Pl

def RdI (cx : Cx) (k : IntKind) (xs : List Nat) (b o : Nat) : Prop :=
  ∀ (i x : Nat), xs[i]? = some x → cx.X b ∧ cx.w0.cell? ⟨b, o + i, none⟩ = some (.int k x) ∧ x < lim k

def RelXI (cx : Cx) (k : IntKind) (xs : List Nat) (cv : Value) : Prop :=
  (xs = [] ∧ cv = .slice none 0 0) ∨ ∃ b o cap, cv = .slice (some ⟨b, o, none⟩) xs.length cap ∧ xs.length ≤ cap ∧ RdI cx k xs b o

def RdX (cx : Cx) : XC → Nat → Nat → Prop
  | .ints k xs, b, o => RdI cx k xs b o
  | .arrs k n xss, b, o => ∀ i xs, xss[i]? = some xs → xs.length = n ∧ RdI cx k xs b (o + i * n)
  | .bss xss, b, o => ∀ i xs, xss[i]? = some xs → cx.X b ∧ ∃ cv, cx.w0.cell? ⟨b, o + i, none⟩ = some cv ∧ RelXI cx .u8 xs cv

def RelX (cx : Cx) (c : XC) (cv : Value) : Prop :=
  (c.len = 0 ∧ cv = .slice none 0 0) ∨ ∃ b o cap, cv = .slice (some ⟨b, o, none⟩) c.len cap ∧ c.len ≤ cap ∧ RdX cx c b o

def RelP (β : Bm) (p : Nat × Nat) (cv : Value) : Prop := ∃ q, β p.1 = some q ∧ cv = .pointer (some ⟨q.blk, q.base + p.2, none⟩)

def RelPs (β : Bm) : List (Nat × Nat) → List Value → Prop
  | [], l => l = []
  | p :: ps, l => ∃ cv l', l = cv :: l' ∧ RelP β p cv ∧ RelPs β ps l'

def RelS (cx : Cx) (β : Bm) : SV → Value → Prop
  | .bool b, cv => cv = .bool b
  | .nat k n, cv => cv = .int k n ∧ n < lim k
  | .int z, cv => cv = .int .i64 z ∧ -9223372036854775808 ≤ z ∧ z < 9223372036854775808
  | .str s, cv => ∃ ba : ByteArray, cv = .string ba ∧ s = ba.data.toList.map (·.toNat)
  | .ptr b off, cv => RelP β (b, off) cv
  | .sl _ b off len sz, cv => (len = 0 ∧ cv = .slice none 0 0) ∨ ∃ q cap x, β b = some q ∧ cv = .slice (some ⟨q.blk, x, none⟩) len cap ∧ (cap ≠ 0 → x = q.base + off) ∧ len ≤ cap ∧ off + cap * sz ≤ q.size
  | .nil, cv => cv = .slice none 0 0
  | .nilp, cv => cv = .pointer none
  | .xsl c, cv => RelX cx c cv
  | .xptr c i, cv => ∃ b o, cv = .pointer (some ⟨b, o + i * c.sz, none⟩) ∧ RdX cx c b o
  | .fn f first cap, cv => ∃ l1 l2, cv = .func (.func f) (List.toArray l1) (List.toArray l2) ∧ RelPs β first l1 ∧ RelPs β cap l2

def RelC (cx : Cx) (β : Bm) : List Ch → List Value → Prop
  | [], l => l = []
  | .ints k n xs :: cs, l => xs.length = n ∧ (∀ x ∈ xs, x < lim k) ∧ ∃ l', l = xs.map (fun x : Nat => Value.int k x) ++ l' ∧ RelC cx β cs l'
  | .one v :: cs, l => ∃ cv l', l = cv :: l' ∧ RelS cx β v cv ∧ RelC cx β cs l'

def RelV1 (cx : Cx) (β : Bm) : AV → Value → Prop
  | .any, _ => True
  | .s v, cv => RelS cx β v cv
  | .agg cs, cv => ∃ l, cv = .agg (List.toArray l) ∧ RelC cx β cs l
  | .tup _, _ => False

def RelL1 (cx : Cx) (β : Bm) : List AV → List Value → Prop
  | [], l => l = []
  | v :: vs, l => ∃ cv l', l = cv :: l' ∧ RelV1 cx β v cv ∧ RelL1 cx β vs l'

def RelV (cx : Cx) (β : Bm) : AV → Value → Prop
  | .tup vs, cv => ∃ l, cv = .tuple (List.toArray l) ∧ RelL1 cx β vs l
  | v, cv => RelV1 cx β v cv

/-- What a live name says of its block. -/
def Held (cx : Cx) (β : Bm) (w : World) (p : Pl) (cs : Blk) : Prop :=
  ∃ (c : Array Value) (T : TypeId) (fr : Nat × Nat), w.heap[p.blk]? = some (.cells c T fr) ∧ p.base + p.size ≤ c.size ∧
    (∀ o, p.base ≤ o → o < p.base + p.size → ¬ (fr.1 ≤ o ∧ o < fr.2)) ∧
    ∃ l, RelC cx β cs l ∧ l.length ≤ p.size ∧ ∀ i v, l[i]? = some v → c[p.base + i]? = some v

def WfB (cs : Blk) : Prop := ∀ k m xs, Ch.ints k m xs ∈ cs → xs.length = m

structure RelH (cx : Cx) (Wr : Nat → Prop) (β : Bm) (H : Nat → Option Blk) (D : Nat → Prop) (w : World) : Prop where
  size : cx.w0.heap.size ≤ w.heap.size
  frame : ∀ b, b < cx.w0.heap.size → ¬ Wr b → w.heap[b]? = cx.w0.heap[b]?
  xok : ∀ b, cx.X b → b < cx.w0.heap.size ∧ ¬ Wr b
  dom : ∀ n p, β n = some p → D n ∧ p.blk < w.heap.size ∧ (cx.w0.heap.size ≤ p.blk ∨ Wr p.blk)
  held : ∀ n p cs, β n = some p → H n = some cs → Held cx β w p cs
  wf : ∀ n cs, H n = some cs → WfB cs
  hd : ∀ n cs, H n = some cs → D n
  inj : ∀ n m p q, β n = some p → β m = some q → (H n).isSome = true → (H m).isSome = true → p.blk = q.blk → n = m
  os : w.os = cx.w0.os
  tape : w.tape = cx.w0.tape
  output : w.output = cx.w0.output

/-! 'β'' knows what β knows. -/
def Ext (β β' : Bm) : Prop := ∀ n p, β n = some p → β' n = some p

theorem Ext.refl (β : Bm) : Ext β β := fun _ _ h => h
theorem Ext.trans {a b c : Bm} (h : Ext a b) (k : Ext b c) : Ext a c := fun n p e => k n p (h n p e)

theorem RelP.ext {β β' : Bm} (h : Ext β β') {p : Nat × Nat} {cv : Value} : RelP β p cv → RelP β' p cv :=
  fun ⟨q, hq, e⟩ => ⟨q, h _ _ hq, e⟩

theorem RelPs.ext {β β' : Bm} (h : Ext β β') : ∀ {ps : List (Nat × Nat)} {l : List Value}, RelPs β ps l → RelPs β' ps l
  | [], _, e => e
  | _ :: _, _, ⟨cv, l', e, hp, hr⟩ => ⟨cv, l', e, hp.ext h, RelPs.ext h hr⟩

theorem RelS.ext {cx : Cx} {β β' : Bm} (h : Ext β β') {v : SV} {cv : Value} (hv : RelS cx β v cv) : RelS cx β' v cv := by
  cases v with
  | ptr b o => exact RelP.ext h hv
  | sl m b o l z => exact hv.imp id fun ⟨q, cap, x, hq, r⟩ => ⟨q, cap, x, h _ _ hq, r⟩
  | fn f a c => obtain ⟨l1, l2, e, h1, h2⟩ := hv; exact ⟨l1, l2, e, h1.ext h, h2.ext h⟩
  | _ => exact hv

theorem RelC.ext {cx : Cx} {β β' : Bm} (h : Ext β β') : ∀ {cs : List Ch} {l : List Value}, RelC cx β cs l → RelC cx β' cs l
  | [], _, e => e
  | .ints _ _ _ :: _, _, ⟨h1, h2, l', e, hr⟩ => ⟨h1, h2, l', e, RelC.ext h hr⟩
  | .one _ :: _, _, ⟨cv, l', e, hv, hr⟩ => ⟨cv, l', e, hv.ext h, RelC.ext h hr⟩

theorem RelV1.ext {cx : Cx} {β β' : Bm} (h : Ext β β') {v : AV} {cv : Value} (hv : RelV1 cx β v cv) : RelV1 cx β' v cv := by
  cases v with
  | any => trivial
  | s v => exact RelS.ext h hv
  | agg cs => obtain ⟨l, e, hr⟩ := hv; exact ⟨l, e, hr.ext h⟩
  | tup vs => exact hv.elim

theorem RelL1.ext {cx : Cx} {β β' : Bm} (h : Ext β β') : ∀ {vs : List AV} {l : List Value}, RelL1 cx β vs l → RelL1 cx β' vs l
  | [], _, e => e
  | _ :: _, _, ⟨cv, l', e, hv, hr⟩ => ⟨cv, l', e, hv.ext h, RelL1.ext h hr⟩

theorem RelV.ext {cx : Cx} {β β' : Bm} (h : Ext β β') {v : AV} {cv : Value} (hv : RelV cx β v cv) : RelV cx β' v cv := by
  cases v with
  | tup vs => obtain ⟨l, e, hr⟩ := hv; exact ⟨l, e, hr.ext h⟩
  | any => trivial
  | s v => exact RelV1.ext (v := .s v) h hv
  | agg cs => exact RelV1.ext (v := .agg cs) h hv

theorem RelV.of1 {cx : Cx} {β : Bm} {v : AV} {cv : Value} (hv : RelV1 cx β v cv) : RelV cx β v cv := by
  cases v with
  | tup vs => exact hv.elim
  | _ => exact hv

/-! One cell. -/
theorem RelS.oneCell {cx : Cx} {β : Bm} {v : SV} {cv : Value} (hv : RelS cx β v cv) : cv.oneCell' = true := by
  cases v with
  | bool b => cases hv; rfl
  | nat k n => obtain ⟨rfl, _⟩ := hv; rfl
  | int z => obtain ⟨rfl, _⟩ := hv; rfl
  | str s => obtain ⟨ba, rfl, _⟩ := hv; rfl
  | ptr b o => obtain ⟨q, _, rfl⟩ := hv; rfl
  | sl m b o l z => rcases hv with ⟨_, rfl⟩ | ⟨q, cap, x, _, rfl, _⟩ <;> rfl
  | nil => cases hv; rfl
  | nilp => cases hv; rfl
  | xsl c => rcases hv with ⟨_, rfl⟩ | ⟨b, o, cap, rfl, _⟩ <;> rfl
  | xptr c i => obtain ⟨b, o, rfl, _⟩ := hv; rfl
  | fn f a c => obtain ⟨l1, l2, rfl, _⟩ := hv; rfl

theorem oneCell_cells {v : Value} (h : v.oneCell' = true) : v.cells = #[v] := by
  cases v <;> first | rfl | (simp [Value.oneCell'] at h)

theorem RelC.oneCells {cx : Cx} {β : Bm} : ∀ {cs : List Ch} {l : List Value}, RelC cx β cs l → ∀ v ∈ l, v.oneCell' = true
  | [], _, e, v, hv => by rw [e] at hv; cases hv
  | .ints k n xs :: cs, l, ⟨_, _, l', e, hr⟩, v, hv => by
    rw [e] at hv
    rcases List.mem_append.1 hv with h | h
    · obtain ⟨x, _, rfl⟩ := List.mem_map.1 h; rfl
    · exact RelC.oneCells hr v h
  | .one s :: cs, l, ⟨cv, l', e, hs, hr⟩, v, hv => by
    rw [e] at hv
    rcases List.mem_cons.1 hv with rfl | h
    · exact hs.oneCell
    · exact RelC.oneCells hr v h

theorem RelC.length {cx : Cx} {β : Bm} : ∀ {cs : List Ch} {l : List Value}, RelC cx β cs l → l.length = sizeB cs
  | [], _, e => by rw [e]; rfl
  | .ints k n xs :: cs, l, ⟨hn, _, l', e, hr⟩ => by rw [e]; simp [sizeB, Ch.size, hn, RelC.length hr]
  | .one s :: cs, l, ⟨cv, l', e, hs, hr⟩ => by rw [e]; simp [sizeB, Ch.size, RelC.length hr]; omega

theorem RelC.wf {cx : Cx} {β : Bm} : ∀ {cs : List Ch} {l : List Value}, RelC cx β cs l → WfB cs
  | [], _, _ => fun _ _ _ h => by cases h
  | .ints k n xs :: cs, l, ⟨hn, _, l', _, hr⟩ => fun k' m ys h => by
    rcases List.mem_cons.1 h with h | h
    · cases h; exact hn
    · exact RelC.wf hr k' m ys h
  | .one s :: cs, l, ⟨cv, l', _, _, hr⟩ => fun k' m ys h => by
    rcases List.mem_cons.1 h with h | h
    · cases h
    · exact RelC.wf hr k' m ys h

theorem RelC.append {cx : Cx} {β : Bm} : ∀ {cs ds : List Ch} {l m : List Value}, RelC cx β cs l → RelC cx β ds m → RelC cx β (cs ++ ds) (l ++ m)
  | [], _, _, _, e, hd => by rw [e]; exact hd
  | .ints k n xs :: cs, ds, l, m, ⟨hn, hx, l', e, hr⟩, hd => ⟨hn, hx, l' ++ m, by rw [e, List.append_assoc], RelC.append hr hd⟩
  | .one s :: cs, ds, l, m, ⟨cv, l', e, hs, hr⟩, hd => ⟨cv, l' ++ m, by rw [e]; rfl, hs, RelC.append hr hd⟩

/-- A part of 'ints'. -/
theorem RelC.cutI {cx : Cx} {β : Bm} {k : IntKind} {n : Nat} {xs : List Nat} (hn : xs.length = n) (hx : ∀ x ∈ xs, x < lim k) (off m : Nat) (hm : off + m ≤ n) {cs : List Ch} {l : List Value} (hr : RelC cx β cs l) :
    RelC cx β (cutI k n xs off m :: cs) (((xs.drop off).take m).map (fun x : Nat => Value.int k x) ++ l) := by
  unfold Go.Proofs.Ytgebgjhjegadpaa.cutI
  split
  · rename_i h
    simp only [Bool.and_eq_true, Nat.beq_eq] at h
    obtain ⟨rfl, rfl⟩ := h
    refine ⟨hn, hx, l, ?_, hr⟩
    rw [List.drop_zero, List.take_of_length_le (by omega)]
  · exact ⟨by simp; omega, fun x h => hx x (List.mem_of_mem_drop (List.mem_of_mem_take h)), l, rfl, hr⟩

theorem subB_spec {cx : Cx} {β : Bm} : ∀ (cs : List Ch) (off len : Nat) (r : List Ch) (l : List Value), subB off len cs = some r → RelC cx β cs l →
    RelC cx β r ((l.drop off).take len) ∧ off + len ≤ l.length ∨ (len = 0 ∧ r = []) := by
  intro cs
  induction cs with
  | nil =>
    intro off len r l h hl
    unfold subB at h
    split at h
    · rename_i h0; simp at h0; simp at h; exact .inr ⟨h0, h⟩
    · simp at h
  | cons c cs ih =>
    intro off len r l h hl
    unfold subB at h
    split at h
    · rename_i h0; simp at h0; simp at h; exact .inr ⟨h0, h⟩
    · rename_i h0
      have hlen : len ≠ 0 := by intro e; rw [e] at h0; simp at h0
      simp only at h
      split at h
      · rename_i hle
        have hle' : c.size ≤ off := Nat.le_of_ble_eq_true hle
        cases c with
        | ints k n xs =>
          obtain ⟨hn, hx, l', rfl, hr⟩ := hl
          rcases ih _ _ _ _ h hr with ⟨h1, h2⟩ | ⟨h1, _⟩
          · simp only [Ch.size] at *
            refine .inl ⟨?_, by simp; omega⟩
            rw [List.drop_append, List.drop_of_length_le (by simp; omega)]
            simpa [hn] using h1
          · exact absurd h1 hlen
        | one v =>
          obtain ⟨cv, l', rfl, hv, hr⟩ := hl
          rcases ih _ _ _ _ h hr with ⟨h1, h2⟩ | ⟨h1, _⟩
          · simp only [Ch.size] at *
            refine .inl ⟨?_, by simp; omega⟩
            obtain ⟨o, rfl⟩ : ∃ o, off = o + 1 := ⟨off - 1, by omega⟩
            simpa using h1
          · exact absurd h1 hlen
      · rename_i hle
        have hlt : off < c.size := by
          rcases Nat.lt_or_ge off c.size with h | h
          · exact h
          · rw [Nat.ble_eq_true_of_le h] at hle; cases hle
        cases c with
        | one v =>
          obtain ⟨cv, l', rfl, hv, hr⟩ := hl
          simp only [Ch.size] at hlt
          obtain rfl : off = 0 := by omega
          simp only at h
          obtain ⟨m, rfl⟩ : ∃ m, len = m + 1 := ⟨len - 1, by omega⟩
          split at h
          · rename_i r' h'
            simp only [Option.some.injEq] at h; subst h
            simp only [Nat.add_sub_cancel] at h'
            rcases ih _ _ _ _ h' hr with ⟨h1, h2⟩ | ⟨h1, h2⟩
            · refine .inl ⟨⟨cv, _, by simp, hv, h1⟩, by simp; omega⟩
            · subst h1; subst h2
              refine .inl ⟨⟨cv, [], by simp, hv, rfl⟩, by simp⟩
          · cases h
        | ints k n xs =>
          obtain ⟨hn, hx, l', rfl, hr⟩ := hl
          simp only [Ch.size] at hlt
          simp only at h
          split at h
          · rename_i hb
            have hb' := Nat.le_of_ble_eq_true hb
            simp only [Option.some.injEq] at h; subst h
            refine .inl ⟨?_, by simp; omega⟩
            have := RelC.cutI (cx := cx) (β := β) (k := k) hn hx off len (by omega) (cs := []) (l := []) rfl
            rw [List.drop_append_of_le_length (by simp; omega), List.take_append_of_le_length (by simp; omega)]
            simpa [List.map_drop, List.map_take] using this
          · rename_i hb
            have hb' : n - off < len := by
              rcases Nat.lt_or_ge (n - off) len with h | h
              · exact h
              · rw [Nat.ble_eq_true_of_le h] at hb; cases hb
            split at h
            · rename_i r' h'
              simp only [Option.some.injEq] at h; subst h
              rcases ih _ _ _ _ h' hr with ⟨h1, h2⟩ | ⟨h1, h2⟩
              · refine .inl ⟨?_, by simp; omega⟩
                have := RelC.cutI (cx := cx) (β := β) (k := k) hn hx off (n - off) (by omega) h1
                rw [List.drop_append_of_le_length (by simp; omega), List.take_append]
                simp only [List.drop_zero] at this
                have e1 : ((xs.drop off).take (n - off)) = xs.drop off := List.take_of_length_le (by simp; omega)
                rw [e1] at this
                rw [List.take_of_length_le (by simp; omega)]
                simpa [List.map_drop, hn] using this
              · omega
            · cases h

theorem subB_rel {cx : Cx} {β : Bm} {cs : List Ch} {off len : Nat} {r : List Ch} {l : List Value} (h : subB off len cs = some r) (hl : RelC cx β cs l) : RelC cx β r ((l.drop off).take len) := by
  rcases subB_spec cs off len r l h hl with h | ⟨rfl, rfl⟩
  · exact h.1
  · simp [RelC]

theorem subB_le {cx : Cx} {β : Bm} {cs : List Ch} {off len : Nat} {r : List Ch} {l : List Value} (h : subB off len cs = some r) (h0 : len ≠ 0) (hl : RelC cx β cs l) : off + len ≤ l.length := by
  rcases subB_spec cs off len r l h hl with h | ⟨h, _⟩
  · exact h.2
  · exact absurd h h0

theorem getI_rel {cx : Cx} {β : Bm} {k : IntKind} {n off : Nat} {xs : List Nat} {cs : List Ch} {l : List Value} (hlt : off < n) (hl : RelC cx β (.ints k n xs :: cs) l) :
    ∃ cv, l[off]? = some cv ∧ RelS cx β (.nat k (xs.getD off 0)) cv := by
  obtain ⟨hn, hx, l', rfl, hr'⟩ := hl
  refine ⟨.int k (xs.getD off 0), ?_, rfl, ?_⟩
  · rw [List.getElem?_append_left (by simp; omega)]
    simp [List.getElem?_eq_getElem (show off < xs.length by omega), List.getD]
  · rw [List.getD, List.getElem?_eq_getElem (show off < xs.length by omega)]
    exact hx _ (List.getElem_mem _)

theorem getC_rel {cx : Cx} {β : Bm} : ∀ (cs : List Ch) (off : Nat) (r : List Bool) (v : SV) (l : List Value), getC cs off = some (r, v) → (∀ b ∈ r, b = true) → RelC cx β cs l →
    ∃ cv, l[off]? = some cv ∧ RelS cx β v cv := by
  intro cs
  induction cs with
  | nil => intro off r v l h; simp [getC] at h
  | cons c cs ih =>
    intro off r v l h hr hl
    cases c with
    | one s =>
      obtain ⟨cv', l', rfl, hs, hr'⟩ := hl
      cases off with
      | zero =>
        simp only [getC, Option.some.injEq, Prod.mk.injEq] at h
        obtain ⟨rfl, rfl⟩ := h
        exact ⟨cv', rfl, hs⟩
      | succ o =>
        simp only [getC] at h
        simpa using ih _ _ _ _ h hr hr'
    | ints k n xs =>
      cases cs with
      | nil =>
        simp only [getC, Option.some.injEq, Prod.mk.injEq] at h
        obtain ⟨rfl, rfl⟩ := h
        exact getI_rel (by simpa using hr) hl
      | cons c cs =>
        simp only [getC] at h
        split at h
        · rename_i hle
          have hle' := Nat.le_of_ble_eq_true hle
          obtain ⟨hn, hx, l', rfl, hr'⟩ := hl
          obtain ⟨cv, h1, h2⟩ := ih _ _ _ _ h hr hr'
          refine ⟨cv, ?_, h2⟩
          rw [List.getElem?_append_right (by simp; omega)]
          simpa [hn] using h1
        · rename_i hle
          simp only [Option.some.injEq, Prod.mk.injEq] at h
          obtain ⟨rfl, rfl⟩ := h
          refine getI_rel ?_ hl
          rcases Nat.lt_or_ge off n with h | h
          · exact h
          · rw [Nat.ble_eq_true_of_le h] at hle; cases hle

theorem setI_rel {cx : Cx} {β : Bm} {k : IntKind} {n off : Nat} {xs : List Nat} {cs cs' : List Ch} {l : List Value} {v : SV} {cv : Value} {r r' : List Bool} (hlt : off < n)
    (h : setI k n xs off cs r v = some (r', cs')) (hl : RelC cx β (.ints k n xs :: cs) l) (hv : RelS cx β v cv) :
    RelC cx β cs' (l.set off cv) ∧ off < l.length := by
  unfold setI at h
  split at h
  · rename_i k' x
    split at h
    · rename_i hk
      obtain rfl : k' = k := of_decide_eq_true hk
      simp only [Option.some.injEq, Prod.mk.injEq] at h
      obtain ⟨_, rfl⟩ := h
      obtain ⟨rfl, hx⟩ := hv
      obtain ⟨hn, hxs, l', rfl, hr'⟩ := hl
      refine ⟨⟨by simpa using hn, fun y hy => ?_, l', ?_, hr'⟩, by simp; omega⟩
      · rcases List.mem_or_eq_of_mem_set hy with h | rfl
        · exact hxs _ h
        · exact hx
      · rw [List.set_append_left _ _ (by simp; omega), List.map_set]
    · cases h
  · cases h

theorem setI_r {k : IntKind} {n off : Nat} {xs : List Nat} {cs cs' : List Ch} {v : SV} {r r' : List Bool} (h : setI k n xs off cs r v = some (r', cs')) : r' = r := by
  unfold setI at h
  split at h
  · split at h
    · simp only [Option.some.injEq, Prod.mk.injEq] at h; exact h.1.symm
    · cases h
  · cases h

theorem consO_some {c : Ch} {x : Option (List Bool × List Ch)} {r : List Bool} {cs : List Ch} (h : consO c x = some (r, cs)) : ∃ cs', x = some (r, cs') ∧ cs = c :: cs' := by
  unfold consO at h
  split at h
  · simp only [Option.some.injEq, Prod.mk.injEq] at h
    obtain ⟨rfl, rfl⟩ := h
    exact ⟨_, rfl, rfl⟩
  · cases h

theorem setC_rel {cx : Cx} {β : Bm} {v : SV} {cv : Value} (hv : RelS cx β v cv) : ∀ (cs : List Ch) (off : Nat) (r : List Bool) (cs' : List Ch) (l : List Value), setC v cs off = some (r, cs') → (∀ b ∈ r, b = true) → RelC cx β cs l →
    RelC cx β cs' (l.set off cv) ∧ off < l.length := by
  intro cs
  induction cs with
  | nil => intro off r cs' l h; simp [setC] at h
  | cons c cs ih =>
    intro off r cs' l h hr hl
    cases c with
    | one s =>
      obtain ⟨cv', l', rfl, hs, hr'⟩ := hl
      cases off with
      | zero =>
        simp only [setC, Option.some.injEq, Prod.mk.injEq] at h
        obtain ⟨rfl, rfl⟩ := h
        exact ⟨⟨cv, l', rfl, hv, hr'⟩, by simp⟩
      | succ o =>
        simp only [setC] at h
        obtain ⟨cs1, h1, rfl⟩ := consO_some h
        obtain ⟨h2, h3⟩ := ih _ _ _ _ h1 hr hr'
        exact ⟨⟨cv', _, by simp, hs, h2⟩, by simpa using h3⟩
    | ints k n xs =>
      cases cs with
      | nil =>
        simp only [setC] at h
        have := setI_r h
        subst this
        exact setI_rel (by simpa using hr) h hl hv
      | cons c cs =>
        simp only [setC] at h
        split at h
        · rename_i hle
          have hle' := Nat.le_of_ble_eq_true hle
          obtain ⟨cs1, h1, rfl⟩ := consO_some h
          obtain ⟨hn, hx, l', rfl, hr'⟩ := hl
          obtain ⟨h2, h3⟩ := ih _ _ _ _ h1 hr hr'
          refine ⟨⟨hn, hx, _, ?_, h2⟩, by simp; omega⟩
          rw [List.set_append_right _ _ (by simp; omega)]
          simp [hn]
        · rename_i hle
          refine setI_rel ?_ h hl hv
          rcases Nat.lt_or_ge off n with h | h
          · exact h
          · rw [Nat.ble_eq_true_of_le h] at hle; cases hle

theorem putB0_rel {cx : Cx} {β : Bm} {cs new r : List Ch} {off : Nat} {l m : List Value} (h : putB0 off new cs = some r) (hl : RelC cx β cs l) (hm : RelC cx β new m) :
    RelC cx β r (l.take off ++ m ++ l.drop (off + m.length)) := by
  unfold putB0 at h
  split at h
  · split at h
    · rename_i a b ha hb
      simp only [Option.some.injEq] at h; subst h
      have h1 := subB_rel ha hl
      have h2 := subB_rel hb hl
      rw [← hm.length] at h2
      have e : (l.drop (off + m.length)).take (sizeB cs - (off + m.length)) = l.drop (off + m.length) := List.take_of_length_le (by simp [hl.length])
      rw [e] at h2
      simpa using (h1.append hm).append h2
    · cases h
  · cases h

theorem putB0_le {cs new r : List Ch} {off : Nat} (h : putB0 off new cs = some r) : off + sizeB new ≤ sizeB cs := by
  unfold putB0 at h
  split at h
  · rename_i hb; exact Nat.le_of_ble_eq_true hb
  · cases h

theorem putB_cases {cs new r : List Ch} {off : Nat} (h : putB off new cs = some r) : putB0 off new cs = some r ∨ ∃ k x n xs, new = [.one (.nat k x)] ∧ cs = [.ints k n xs] ∧ off < n ∧ r = [.ints k n (xs.set off x)] := by
  unfold putB at h
  split at h
  · rename_i k x k' n xs
    split at h
    · rename_i hk
      rw [Bool.and_eq_true] at hk
      obtain rfl : k = k' := of_decide_eq_true hk.1
      simp only [Option.some.injEq] at h
      exact .inr ⟨k, x, n, xs, rfl, rfl, Nat.le_of_ble_eq_true hk.2, h.symm⟩
    · exact .inl h
  · exact .inl h

theorem putB_rel {cx : Cx} {β : Bm} {cs new r : List Ch} {off : Nat} {l m : List Value} (h : putB off new cs = some r) (hl : RelC cx β cs l) (hm : RelC cx β new m) :
    RelC cx β r (l.take off ++ m ++ l.drop (off + m.length)) := by
  rcases putB_cases h with h | ⟨k, x, n, xs, rfl, rfl, ho, rfl⟩
  · exact putB0_rel h hl hm
  · obtain ⟨hn, hx, l', rfl, rfl⟩ := hl
    obtain ⟨cv, m', rfl, ⟨rfl, hxl⟩, rfl⟩ := hm
    refine ⟨by simpa using hn, fun y hy => ?_, [], ?_, rfl⟩
    · rcases List.mem_or_eq_of_mem_set hy with h | h
      · exact hx y h
      · subst h; exact hxl
    · rw [List.append_nil, List.append_nil, List.map_set, List.set_eq_take_append_cons_drop, if_pos (by simp; omega)]
      simp

theorem putB_le {cs new r : List Ch} {off : Nat} (h : putB off new cs = some r) : off + sizeB new ≤ sizeB cs := by
  rcases putB_cases h with h | ⟨k, x, n, xs, rfl, rfl, ho, rfl⟩
  · exact putB0_le h
  · simp only [sizeB, Ch.size]; omega

end Go.Proofs.Ytgebgjhjegadpaa

namespace Go.Proofs.Ytgebgjhjegadpaa
open Go

def wrF : List (Nat × Option Blk) → (Nat → Option Blk) → Nat → Option Blk
  | [], H => H
  | (n, c) :: r, H => wrF r (fun m => if m = n then c else H m)

def happ (o : Out) (H : Nat → Option Blk) : Nat → Option Blk := fun n => match lkF o.nw n with
  | some c => some c
  | none => wrF o.wr H n

def dapp (o : Out) (D : Nat → Prop) : Nat → Prop := fun n => D n ∨ (lkF o.nw n).isSome = true

def Post (cx : Cx) (Wr : Nat → Prop) (β : Bm) (H : Nat → Option Blk) (D : Nat → Prop) (out : Out) (cv : Value) (w' : World) : Prop :=
  ∃ β', Ext β β' ∧ RelV cx β' out.v cv ∧ RelH cx Wr β' (happ out H) (dapp out D) w'

section
variable {cx : Cx} {Wr : Nat → Prop} {β : Bm} {H : Nat → Option Blk} {D : Nat → Prop} {w : World}

theorem RelH.mono (h : RelH cx Wr β H D w) {H' : Nat → Option Blk} {D' : Nat → Prop} (hD : ∀ n, D n → D' n) (hH : ∀ n c, H' n = some c → H n = some c) : RelH cx Wr β H' D' w where
  size := h.size
  frame := h.frame
  xok := h.xok
  dom := fun n p e => ⟨hD n (h.dom n p e).1, (h.dom n p e).2⟩
  held := fun n p cs e hc => h.held n p cs e (hH n cs hc)
  wf := fun n cs hc => h.wf n cs (hH n cs hc)
  hd := fun n cs hc => hD n (h.hd n cs (hH n cs hc))
  inj := fun n m p q e1 e2 h1 h2 => h.inj n m p q e1 e2
    (by obtain ⟨c, hc⟩ := Option.isSome_iff_exists.1 h1; rw [hH n c hc]; rfl) (by obtain ⟨c, hc⟩ := Option.isSome_iff_exists.1 h2; rw [hH m c hc]; rfl)
  os := h.os
  tape := h.tape
  output := h.output

theorem post_val {v : AV} {cv : Value} (h : RelH cx Wr β H D w) (hv : RelV cx β v cv) : Post cx Wr β H D (Out.val v) cv w :=
  ⟨β, Ext.refl β, hv, h.mono (fun _ h => .inl h) (fun _ _ h => h)⟩

theorem RelH.drew (h : RelH cx Wr β H D w) : RelH cx Wr β H D w.drew where
  size := h.size
  frame := h.frame
  xok := h.xok
  dom := h.dom
  held := h.held
  wf := h.wf
  hd := h.hd
  inj := h.inj
  os := h.os
  tape := h.tape
  output := h.output

def Bm.put (β : Bm) (n : Nat) (p : Pl) : Bm := fun m => if m = n then some p else β m

theorem Bm.ext_put {n : Nat} {p : Pl} (h : β n = none) : Ext β (β.put n p) := fun m q e => by
  unfold Bm.put
  split
  · rename_i hm; subst hm; rw [h] at e; cases e
  · exact e

theorem RelH.none_of_fresh (h : RelH cx Wr β H D w) {n : Nat} (hn : ¬ D n) : β n = none := by
  cases e : β n with
  | none => rfl
  | some p => exact absurd (h.dom n p e).1 hn

theorem Held.alloc {p : Pl} {cs : Blk} {o : Obj} (h : Held cx β w p cs) : Held cx β (w.alloc o) p cs := by
  obtain ⟨c, T, fr, hc, r⟩ := h
  refine ⟨c, T, fr, ?_, r⟩
  rw [heap_alloc_old]
  · exact hc
  · rcases Nat.lt_or_ge p.blk w.heap.size with h | h
    · exact h
    · simp [Array.getElem?_eq_none h] at hc

theorem Held.ext {β' : Bm} {p : Pl} {cs : Blk} (he : Ext β β') (h : Held cx β w p cs) : Held cx β' w p cs := by
  obtain ⟨c, T, fr, hc, hs, hf, l, hl, r⟩ := h
  exact ⟨c, T, fr, hc, hs, hf, l, hl.ext he, r⟩

theorem RelH.alloc (h : RelH cx Wr β H D w) {n : Nat} (hn : ¬ D n) {c : Array Value} {T : TypeId} {cs : Blk} {l : List Value} (hl : RelC cx β cs l) (hlen : l.length ≤ c.size)
    (hc : ∀ (i : Nat) (v : Value), l[i]? = some v → c[i]? = some v) :
    RelH cx Wr (β.put n ⟨w.heap.size, 0, c.size⟩) (fun m => if m = n then some cs else H m) (fun m => D m ∨ m = n) (w.alloc (.cells c T)) := by
  have hnone := h.none_of_fresh hn
  have hext : Ext β (β.put n ⟨w.heap.size, 0, c.size⟩) := Bm.ext_put hnone
  refine ⟨?_, ?_, h.xok, ?_, ?_, fun m cs' hm => ?_, fun m cs' hm => ?_, ?_, h.os, h.tape, h.output⟩
  · simp; have := h.size; omega
  · intro b hb hW
    rw [heap_alloc_old _ _ _ (by have := h.size; omega)]
    exact h.frame b hb hW
  · intro m p e
    unfold Bm.put at e
    split at e
    · rename_i hm; cases e; exact ⟨.inr hm, by simp, .inl h.size⟩
    · obtain ⟨h1, h2, h3⟩ := h.dom m p e
      exact ⟨.inl h1, by simp; omega, h3⟩
  · intro m p cs' e hcs
    unfold Bm.put at e
    by_cases hm : m = n
    · simp only [hm, if_true, Option.some.injEq] at e hcs
      subst e; subst hcs
      refine ⟨c, T, (0, 0), heap_alloc_new _ _, by simp, by simp, l, hl.ext hext, hlen, fun i v hv => ?_⟩
      simpa using hc i v hv
    · simp only [hm, if_false] at e hcs
      exact (h.held m p cs' e hcs).alloc.ext hext
  · split at hm
    · cases hm; exact hl.wf
    · exact h.wf m cs' hm
  · split at hm
    · rename_i e; exact .inr e
    · exact .inl (h.hd m cs' hm)
  · intro m m' p q e1 e2 h1 h2 hpq
    unfold Bm.put at e1 e2
    by_cases hm : m = n
    · by_cases hm' : m' = n
      · rw [hm, hm']
      · simp only [hm, if_true, Option.some.injEq] at e1
        simp only [hm', if_false] at e2
        have := (h.dom _ _ e2).2.1
        subst e1; simp at hpq; omega
    · by_cases hm' : m' = n
      · simp only [hm', if_true, Option.some.injEq] at e2
        simp only [hm, if_false] at e1
        have := (h.dom _ _ e1).2.1
        subst e2; simp at hpq; omega
      · simp only [hm, hm', if_false] at e1 e2 h1 h2
        exact h.inj m m' p q e1 e2 h1 h2 hpq

/-- A live block is written. -/
theorem RelH.write (h : RelH cx Wr β H D w) {n : Nat} {p : Pl} (hp : β n = some p) {cs cs' : Blk} (hcs : H n = some cs) {w' : World} (hsz : w'.heap.size = w.heap.size)
    (hoth : ∀ k, k ≠ p.blk → w'.heap[k]? = w.heap[k]?) (hos : w'.os = w.os) (ht : w'.tape = w.tape) (ho : w'.output = w.output) (hheld : Held cx β w' p cs') :
    RelH cx Wr β (fun m => if m = n then some cs' else H m) D w' := by
  have hd := h.dom n p hp
  have hwf : WfB cs' := by
    obtain ⟨_, _, _, _, _, _, l, hl, _⟩ := hheld
    exact hl.wf
  refine ⟨by rw [hsz]; exact h.size, ?_, h.xok, ?_, ?_, fun m c hm => ?_, fun m c hm => ?_, ?_, hos.trans h.os, ht.trans h.tape, ho.trans h.output⟩
  · intro b hb hW
    rw [hoth b (fun e => by subst e; rcases hd.2.2 with h1 | h1; · omega
                            · exact hW h1)]
    exact h.frame b hb hW
  · intro m q e; rw [hsz]; exact h.dom m q e
  · intro m q c e hc
    by_cases hm : m = n
    · simp only [hm, if_true, Option.some.injEq] at hc
      subst hm; rw [hp] at e; cases e; subst hc; exact hheld
    · simp only [hm, if_false] at hc
      obtain ⟨c1, T, fr, h1, r⟩ := h.held m q c e hc
      refine ⟨c1, T, fr, ?_, r⟩
      rw [hoth]
      · exact h1
      · intro hq; exact hm (h.inj m n q p e hp (by rw [hc]; rfl) (by rw [hcs]; rfl) hq)
  · split at hm
    · cases hm; exact hwf
    · exact h.wf m c hm
  · split at hm
    · rename_i e; subst e; exact hd.1
    · exact h.hd m c hm
  · intro m m' q q' e1 e2 h1 h2 hq
    refine h.inj m m' q q' e1 e2 ?_ ?_ hq
    · by_cases hm : m = n
      · rw [hm, hcs]; rfl
      · simpa only [hm, if_false] using h1
    · by_cases hm : m' = n
      · rw [hm, hcs]; rfl
      · simpa only [hm, if_false] using h2

theorem cell_of_heap {w : World} {b o : Nat} {c : Array Value} {T : TypeId} {fr : Nat × Nat} (h : w.heap[b]? = some (.cells c T fr)) : w.cell? ⟨b, o, none⟩ = c[o]? := by simp [World.cell?, h]
theorem frozen_of_heap {w : World} {b o : Nat} {c : Array Value} {T : TypeId} {fr : Nat × Nat} (h : w.heap[b]? = some (.cells c T fr)) (hf : ¬ (fr.1 ≤ o ∧ o < fr.2)) : w.frozen? ⟨b, o, none⟩ = false := by
  obtain ⟨lo, hi⟩ := fr
  simp only [World.frozen?, h]
  simpa using hf

theorem addr_add (b o n : Nat) : (⟨b, o, none⟩ : Addr).add n = ⟨b, o + n, none⟩ := by unfold Addr.add; split <;> simp_all

theorem RelH.same (h : RelH cx Wr β H D w) {b : Nat} (hx : cx.X b) : w.heap[b]? = cx.w0.heap[b]? := h.frame b (h.xok b hx).1 (h.xok b hx).2

theorem RelH.cell (h : RelH cx Wr β H D w) {b o : Nat} (hx : cx.X b) : w.cell? ⟨b, o, none⟩ = cx.w0.cell? ⟨b, o, none⟩ := by
  simp [World.cell?, h.same hx]

/-! Reading rows. -/
theorem Held.cells {p : Pl} {cs : Blk} (h : Held cx β w p cs) : ∃ l, RelC cx β cs l ∧ ∀ i v, l[i]? = some v → w.cell? ⟨p.blk, p.base + i, none⟩ = some v := by
  obtain ⟨c, T, fr, hc, hs, hf, l, hl, hlen, hv⟩ := h
  exact ⟨l, hl, fun i v e => by rw [cell_of_heap hc]; exact hv i v e⟩

theorem run_cells {P : Program} {b o n : Nat} {l : List Value} (h : ∀ i v, l[i]? = some v → w.cell? ⟨b, o + i, none⟩ = some v) (hn : l.length = n) :
    (loadCells ⟨b, o, none⟩ n).run P w = .ok l.toArray w := by
  subst hn
  exact run_loadCells_list w _ l (fun j v hv => by rw [addr_add]; exact h j v hv)

theorem drop_take_get {α : Type} {l : List α} {a n i : Nat} {v : α} (h : ((l.drop a).take n)[i]? = some v) : l[a + i]? = some v := by
  rw [List.getElem?_take] at h
  split at h
  · simpa using h
  · cases h

/-! Types. -/
theorem tySize_info {P : Program} {t : TypeId} {sz : Nat} (h : tySize P t = some sz) : ∃ i, P.info? t = some i ∧ i.size = sz := by
  unfold tySize at h
  split at h
  · rename_i i hi; exact ⟨i, hi, by simpa using h⟩
  · cases h

theorem run_sizeOf' {P : Program} {t : TypeId} {sz : Nat} (h : tySize P t = some sz) (w : World) : (sizeOf t).run P w = .ok sz w := by
  obtain ⟨i, hi, rfl⟩ := tySize_info h
  simp [sizeOf, typeInfo, hi]

theorem run_isAgg' {P : Program} {t : TypeId} {b : Bool} (h : isAggT P t = some b) (w : World) : (isAgg t).run P w = .ok b w := by
  unfold isAggT at h
  split at h
  · rename_i fs hu; simp only [Option.some.injEq] at h; subst h; simp [isAgg, run_underlying hu]
  · rename_i n e hu; simp only [Option.some.injEq] at h; subst h; simp [isAgg, run_underlying hu]
  · rename_i d hu; simp only [Option.some.injEq] at h; subst h
    cases hd : P.underlying t with
    | none => simp_all
    | some d => cases d <;> simp_all [isAgg, run_underlying hd]
  · cases h

/-- Blocks that are not made of zero names. -/
theorem happ_new {n : Nat} {v : AV} {cs : Blk} : happ ⟨v, [], [(n, cs)]⟩ H = fun m => if m = n then some cs else H m := by
  funext m
  simp only [happ, lkF, wrF]
  by_cases hm : m = n
  · subst hm; simp
  · have : Nat.beq n m = false := by
      cases hb : Nat.beq n m with
      | false => rfl
      | true => exact absurd (Nat.eq_of_beq_eq_true hb).symm hm
    simp [this, hm]

theorem dapp_new {n : Nat} {v : AV} {cs : Blk} : dapp ⟨v, [], [(n, cs)]⟩ D = fun m => D m ∨ m = n := by
  funext m
  simp only [dapp, lkF]
  by_cases hm : m = n
  · subst hm; simp
  · have : Nat.beq n m = false := by
      cases hb : Nat.beq n m with
      | false => rfl
      | true => exact absurd (Nat.eq_of_beq_eq_true hb).symm hm
    simp [this, hm]

theorem happ_wr {n : Nat} {v : AV} {cs : Option Blk} : happ ⟨v, [(n, cs)], []⟩ H = fun m => if m = n then cs else H m := by
  funext m
  simp only [happ, lkF, wrF]

theorem dapp_wr {v : AV} {wr : List (Nat × Option Blk)} : dapp ⟨v, wr, []⟩ D = D := by
  funext m
  simp [dapp, lkF]

/-- A new block that is one variable or row. -/
theorem post_new {P : Program} {T : TypeId} {n : Nat} (h : RelH cx Wr β H D w) (hn : ¬ D n) {cs : Blk} {l : List Value} (hl : RelC cx β cs l) :
    (newRow T l.toArray).run P w = .ok ⟨w.heap.size, 0, none⟩ (w.alloc (.cells l.toArray T)) ∧
    Post cx Wr β H D ⟨.s (.ptr n 0), [], [(n, cs)]⟩ (.pointer (some ⟨w.heap.size, 0, none⟩)) (w.alloc (.cells l.toArray T)) := by
  refine ⟨by simp [newRow], β.put n ⟨w.heap.size, 0, l.toArray.size⟩, Bm.ext_put (h.none_of_fresh hn), ⟨⟨w.heap.size, 0, l.toArray.size⟩, by simp [Bm.put], by simp⟩, ?_⟩
  rw [happ_new, dapp_new]
  exact h.alloc hn hl (by simp) (fun i v hv => by simpa using hv)

/-! Constants. -/
theorem litSV_rel {v : Value} {s : SV} (h : litSV v = some s) (β : Bm) : RelS cx β s v := by
  unfold litSV at h
  split at h
  · cases h; rfl
  · split at h
    · cases h; rename_i hb; exact ⟨rfl, Nat.le_of_ble_eq_true hb⟩
    · cases h
  · split at h
    · rename_i hb
      cases h
      have := Nat.le_of_ble_eq_true hb
      exact ⟨rfl, by omega, by omega⟩
    · cases h
  · cases h; exact ⟨_, rfl, rfl⟩
  · cases h; rfl
  · cases h; rfl
  · cases h

theorem litAV_rel (v : Value) (β : Bm) : RelV cx β (litAV v) v := by
  unfold litAV
  split
  · rename_i s h; exact litSV_rel h β
  · trivial

theorem consI_rel {k : IntKind} {x : Nat} (hx : x < lim k) {cs : List Ch} {l : List Value} (h : RelC cx β cs l) : RelC cx β (consI k x cs) (.int k x :: l) := by
  unfold consI
  split
  · rename_i k' n xs r
    split
    · rename_i hk
      obtain rfl : k = k' := of_decide_eq_true hk
      obtain ⟨hn, hxs, l', rfl, hr⟩ := h
      exact ⟨by simp [hn], by simpa [hx] using hxs, l', by simp, hr⟩
    · exact ⟨rfl, by simpa using hx, l, by simp, h⟩
  · exact ⟨rfl, by simpa using hx, l, by simp, h⟩

theorem packV_rel : ∀ {l : List Value} {cs : List Ch}, packV l = some cs → ∀ β, RelC cx β cs l
  | [], cs, h, β => by simp [packV] at h; subst h; rfl
  | v :: vs, cs, h, β => by
    unfold packV at h
    split at h
    · rename_i k x r hs hr
      cases h
      obtain ⟨rfl, hx⟩ := litSV_rel (cx := cx) hs β
      exact consI_rel hx (packV_rel hr β)
    · rename_i s r _ hs hr
      cases h
      exact ⟨v, vs, rfl, litSV_rel hs β, packV_rel hr β⟩
    · cases h

theorem thin_rel : ∀ {cs : List Ch} {l : List Value}, RelC cx β cs l → RelC cx β (thin cs) l
  | [], _, h => h
  | .one v :: cs, _, ⟨cv, l', e, hv, hr⟩ => ⟨cv, l', e, hv, thin_rel hr⟩
  | .ints k n xs :: cs, l, ⟨hn, hx, l', e, hr⟩ => by
    unfold thin
    split
    · rename_i heq; cases heq
    · rename_i k' x r heq
      simp only [List.cons.injEq, Ch.ints.injEq] at heq
      obtain ⟨⟨rfl, rfl, rfl⟩, rfl⟩ := heq
      exact ⟨_, l', by simpa using e, ⟨rfl, hx x (by simp)⟩, thin_rel hr⟩
    · rename_i c r _ heq
      simp only [List.cons.injEq] at heq
      obtain ⟨rfl, rfl⟩ := heq
      exact ⟨hn, hx, l', e, thin_rel hr⟩

theorem zeroB_info {P : Program} {t : TypeId} {z : List Ch} (h : zeroB P t = some z) : ∃ i v, P.info? t = some i ∧ i.zero = some v ∧ ∀ (cx : Cx) β, RelC cx β z v.cells.toList := by
  unfold zeroB at h
  split at h
  · rename_i i hi
    split at h
    · rename_i v hv
      split at h
      · rename_i r hr; cases h; exact ⟨i, v, hi, hv, fun cx β => thin_rel (packV_rel hr β)⟩
      · cases h
    · cases h
  · cases h

theorem run_zeroValue' {P : Program} {t : TypeId} {i : TypeInfo} {v : Value} (hi : P.info? t = some i) (hv : i.zero = some v) (w : World) : (zeroValue t).run P w = .ok v w := by
  simp [zeroValue, typeInfo, hi, hv]

theorem AV.cells_rel {v : AV} {cs : List Ch} {cv : Value} (h : v.cells = some cs) (hv : RelV cx β v cv) : RelC cx β cs cv.cells.toList := by
  unfold AV.cells at h
  split at h
  · cases h
    have hv : RelS cx β _ cv := hv
    rw [oneCell_cells hv.oneCell]
    exact ⟨cv, [], rfl, hv, rfl⟩
  · cases h
    obtain ⟨l, rfl, hr⟩ := hv
    exact hr
  · cases h

end
end Go.Proofs.Ytgebgjhjegadpaa

namespace Go.Proofs.Ytgebgjhjegadpaa
open Go

theorem Tr.needs_get {α : Type} {out : α} {t : Tr α} : ∀ {rs : List Bool}, (Tr.needs rs t).get = some out → (∀ b ∈ rs, b = true) ∧ t.get = some out
  | [], h => ⟨by simp, h⟩
  | c :: cs, h => by
    simp only [Tr.needs, Tr.get] at h
    cases c with
    | false => simp at h
    | true =>
      simp only [cond_true] at h
      obtain ⟨h1, h2⟩ := Tr.needs_get h
      exact ⟨by simpa using h1, h2⟩

theorem Tr.need_get {α : Type} {out : α} {t : Tr α} {c : Bool} (h : (Tr.need c t).get = some out) : c = true ∧ t.get = some out := by
  cases c with
  | false => simp [Tr.get] at h
  | true => exact ⟨rfl, by simpa [Tr.get] using h⟩

theorem Tr.map_get {α β : Type} {f : α → Option β} {b : β} : ∀ {t : Tr α}, (t.map f).get = some b → ∃ a, t.get = some a ∧ f a = some b
  | .leaf a, h => by
    unfold Tr.map at h
    split at h
    · rename_i b' hb; simp only [Tr.get, Option.some.injEq] at h; subst h; exact ⟨a, rfl, hb⟩
    · simp [Tr.get] at h
  | .need c t, h => by
    have h' : (Tr.need c (t.map f)).get = some b := h
    obtain ⟨hc, h''⟩ := Tr.need_get h'
    obtain ⟨a, h1, h2⟩ := Tr.map_get (t := t) h''
    exact ⟨a, by simp [Tr.get, h1, hc], h2⟩
  | .br c x y, h => by
    cases c with
    | true => simp only [Tr.map, Tr.get, cond_true] at h; obtain ⟨a, h1, h2⟩ := Tr.map_get h; exact ⟨a, by simp [Tr.get, h1], h2⟩
    | false => simp only [Tr.map, Tr.get, cond_false] at h; obtain ⟨a, h1, h2⟩ := Tr.map_get h; exact ⟨a, by simp [Tr.get, h1], h2⟩
  | .fail, h => by simp [Tr.map, Tr.get] at h

theorem RM.run_bind {α β : Type} {H : Nat → Option Blk} {f : α → RM β} : ∀ {m : RM α} {b : β} {rd : List Nat}, (m.bind f).run H = some (b, rd) →
    ∃ a l1 l2, m.run H = some (a, l1) ∧ (f a).run H = some (b, l2) ∧ rd = l1 ++ l2
  | .pure a, b, rd, h => ⟨a, [], rd, rfl, h, rfl⟩
  | .fail, b, rd, h => by simp [RM.bind, RM.run] at h
  | .look n k, b, rd, h => by
    simp only [RM.bind, RM.run] at h
    cases hn : H n with
    | none => simp [hn] at h
    | some c =>
      simp only [hn] at h
      cases hk : ((k c).bind f).run H with
      | none => simp [hk] at h
      | some r =>
        obtain ⟨b', l⟩ := r
        simp only [hk, Option.some.injEq, Prod.mk.injEq] at h
        obtain ⟨rfl, rfl⟩ := h
        obtain ⟨a, l1, l2, h1, h2, rfl⟩ := RM.run_bind hk
        exact ⟨a, n :: l1, l2, by simp [RM.run, hn, h1], h2, rfl⟩

theorem RM.run_look {α : Type} {H : Nat → Option Blk} {k : Blk → RM α} {n : Nat} {b : α} {rd : List Nat} (h : (RM.look n k).run H = some (b, rd)) :
    ∃ c l, H n = some c ∧ (k c).run H = some (b, l) ∧ rd = n :: l := by
  simp only [RM.run] at h
  cases hn : H n with
  | none => simp [hn] at h
  | some c =>
    simp only [hn] at h
    cases hk : (k c).run H with
    | none => simp [hk] at h
    | some r =>
      obtain ⟨b', l⟩ := r
      simp only [hk, Option.some.injEq, Prod.mk.injEq] at h
      obtain ⟨rfl, rfl⟩ := h
      exact ⟨c, l, rfl, hk, rfl⟩

theorem RM.run_agree {α : Type} {H H' : Nat → Option Blk} : ∀ {m : RM α} {a : α} {rd : List Nat}, m.run H = some (a, rd) → (∀ n ∈ rd, H' n = H n) → m.run H' = some (a, rd)
  | .pure a, _, _, h, _ => h
  | .fail, _, _, h, _ => by simp [RM.run] at h
  | .look n k, a, rd, h, hr => by
    obtain ⟨c, l, hn, hk, rfl⟩ := RM.run_look h
    have := RM.run_agree hk (fun m hm => hr m (List.mem_cons_of_mem _ hm))
    simp [RM.run, hr n (List.mem_cons_self), hn, this]

/-! Numbers. -/
theorem lim_pos (k : IntKind) : 0 < lim k := by cases k <;> decide

theorem wrap_u {k : IntKind} (h : isU k = true) (z : Int) : k.wrap z = z % (lim k : Int) := by
  cases k <;> simp [isU] at h <;> simp [IntKind.wrap, IntKind.signed, IntKind.bits, lim]

theorem wrap_i {z : Int} (h1 : -9223372036854775808 ≤ z) (h2 : z < 9223372036854775808) : IntKind.i64.wrap z = z := by
  rw [IntKind.wrap_i64]; omega

theorem lim_bits {k : IntKind} (h : isU k = true) : lim k = 2 ^ k.bits := by cases k <;> simp [isU] at h <;> rfl

theorem wrap_nat {k : IntKind} {x : Nat} (h : x < lim k) : k.wrap (x : Int) = x := by
  cases k <;> simp only [lim] at h <;> simp only [IntKind.wrap, IntKind.signed, IntKind.bits] <;> simp <;> omega

section
variable {P : Program} {w : World}

theorem bits_run (op : BinOp) (k : IntKind) (a b c : Nat) (ha : a < 2 ^ k.bits) (hb : b < 2 ^ k.bits) (hc : c < lim k)
    (h : op = .and ∧ c = a &&& b ∨ op = .or ∧ c = a ||| b ∨ op = .xor ∧ c = a ^^^ b) : (Op.intBits op k (a : Int) (b : Int)).run P w = .ok (.int k c) w := by
  have e1 : BitVec.ofInt k.bits (a : Int) = BitVec.ofNat k.bits a := BitVec.ofInt_natCast ..
  have e2 : BitVec.ofInt k.bits (b : Int) = BitVec.ofNat k.bits b := BitVec.ofInt_natCast ..
  rcases h with ⟨rfl, rfl⟩ | ⟨rfl, rfl⟩ | ⟨rfl, rfl⟩ <;>
    simp only [Op.intBits, e1, e2, Sem.run_pure] <;>
    simp [Nat.mod_eq_of_lt ha, Nat.mod_eq_of_lt hb, wrap_nat hc]

theorem cmpN_run {op : BinOp} {a b : Nat} {v : SV} (h : cmpN op a b = some v) : ∃ cv, (Op.intCmp op (a : Int) (b : Int)).run P w = .ok cv w ∧ ∀ (cx : Cx) (β : Bm), RelS cx β v cv := by
  unfold cmpN at h
  split at h <;> first | (cases h; done) | (cases h; refine ⟨_, rfl, fun cx β => congrArg Value.bool ?_⟩; first | rfl | (rw [Bool.eq_iff_iff]; simp <;> omega))

theorem cmpZ_run {op : BinOp} {a b : Int} {v : SV} (h : cmpZ op a b = some v) : ∃ cv, (Op.intCmp op a b).run P w = .ok cv w ∧ ∀ (cx : Cx) (β : Bm), RelS cx β v cv := by
  unfold cmpZ at h
  split at h <;> first | (cases h; done) | (cases h; refine ⟨_, rfl, fun cx β => congrArg Value.bool ?_⟩; first | rfl | (rw [Bool.eq_iff_iff]; simp <;> omega))

theorem or_lt_lim {k : IntKind} (h : isU k = true) {a b : Nat} (ha : a < lim k) (hb : b < lim k) : a ||| b < lim k := by
  rw [lim_bits h] at *; exact Nat.or_lt_two_pow ha hb
theorem xor_lt_lim {k : IntKind} (h : isU k = true) {a b : Nat} (ha : a < lim k) (hb : b < lim k) : a ^^^ b < lim k := by
  rw [lim_bits h] at *; exact Nat.xor_lt_two_pow ha hb

theorem tdiv_nat (a b : Nat) : (a : Int).tdiv (b : Int) = ((a / b : Nat) : Int) := rfl
theorem tmod_nat (a b : Nat) : (a : Int).tmod (b : Int) = ((a % b : Nat) : Int) := rfl

theorem binU_run {op : BinOp} {k : IntKind} {a b : Nat} {t : Tr SV} {v : SV} (hk : isU k = true) (ha : a < lim k) (hb : b < lim k) (h : binU op k a b = some t) (hg : t.get = some v) (hsh : isSh op = false) :
    ∃ cv, (Go.binOp op 0 (.int k a) (.int k b)).run P w = .ok cv w ∧ ∀ (cx : Cx) (β : Bm), RelS cx β v cv := by
  have hl := lim_pos k
  have hlb := lim_bits hk
  have key : ∀ (m : Sem Value) (x : Nat), (Go.binOp op 0 (.int k a) (.int k b)) = m → m.run P w = .ok (.int k x) w → x < lim k → v = .nat k x → ∃ cv, (Go.binOp op 0 (.int k a) (.int k b)).run P w = .ok cv w ∧ ∀ (cx : Cx) (β : Bm), RelS cx β v cv := by
    intro m x e1 e2 hx e3
    subst e1 e3
    exact ⟨_, e2, fun cx β => ⟨rfl, hx⟩⟩
  unfold binU at h
  split at h
  · cases h; cases hg
    exact key _ ((a + b) % lim k) rfl (by simp [Go.binOp, Op.intArith, wrap_u hk]) (Nat.mod_lt _ hl) rfl
  · cases h; cases hg
    refine key _ ((a + lim k - b) % lim k) rfl ?_ (Nat.mod_lt _ hl) rfl
    simp only [Go.binOp, Op.intArith, wrap_u hk, ne_eq, not_true, if_false, Sem.run_pure]
    congr 2
    rw [Int.natCast_emod, Int.natCast_sub (by omega), Int.natCast_add]
    rw [show ((a : Int) + (lim k : Int) - (b : Int)) = ((a : Int) - (b : Int)) + (lim k : Int) by omega, Int.add_emod_right]
  · cases h; cases hg
    exact key _ (a * b % lim k) rfl (by simp [Go.binOp, Op.intArith, wrap_u hk]) (Nat.mod_lt _ hl) rfl
  · cases h
    obtain ⟨h0, hg⟩ := Tr.need_get hg
    cases hg
    have h0 : 0 < b := of_decide_eq_true h0
    have hlt : a / b < lim k := Nat.lt_of_le_of_lt (Nat.div_le_self _ _) ha
    refine key _ (a / b) rfl ?_ hlt rfl
    simp only [Go.binOp, Op.intDiv, ne_eq, not_true, if_false, tdiv_nat, wrap_nat hlt]
    rw [if_neg (by omega)]; rfl
  · cases h
    obtain ⟨h0, hg⟩ := Tr.need_get hg
    cases hg
    have h0 : 0 < b := of_decide_eq_true h0
    refine key _ (a % b) rfl ?_ (Nat.lt_of_le_of_lt (Nat.mod_le _ _) ha) rfl
    simp only [Go.binOp, Op.intDiv, ne_eq, not_true, if_false, tmod_nat]
    rw [if_neg (by omega)]; rfl
  · cases h; cases hg
    have hx : a &&& b < lim k := Nat.lt_of_le_of_lt Nat.and_le_left ha
    refine key _ (a &&& b) rfl ?_ hx rfl
    simp only [Go.binOp, ne_eq, not_true, if_false]
    exact bits_run _ k a b _ (hlb ▸ ha) (hlb ▸ hb) hx (.inl ⟨rfl, rfl⟩)
  · cases h; cases hg
    refine key _ (a ||| b) rfl ?_ (or_lt_lim hk ha hb) rfl
    simp only [Go.binOp, ne_eq, not_true, if_false]
    exact bits_run _ k a b _ (hlb ▸ ha) (hlb ▸ hb) (or_lt_lim hk ha hb) (.inr (.inl ⟨rfl, rfl⟩))
  · cases h; cases hg
    refine key _ (a ^^^ b) rfl ?_ (xor_lt_lim hk ha hb) rfl
    simp only [Go.binOp, ne_eq, not_true, if_false]
    exact bits_run _ k a b _ (hlb ▸ ha) (hlb ▸ hb) (xor_lt_lim hk ha hb) (.inr (.inr ⟨rfl, rfl⟩))
  · split at h
    · rename_i v' hv
      cases h; cases hg
      obtain ⟨cv, h1, h2⟩ := cmpN_run (P := P) (w := w) hv
      refine ⟨cv, ?_, h2⟩
      cases op <;> simp [cmpN] at hv <;> simpa [Go.binOp] using h1
    · cases h

theorem isI_lim : lim .i64 = 9223372036854775808 := rfl

theorem subS_rel : ∀ (a b : Nat), a < 9223372036854775808 → b < 9223372036854775808 → ∀ (cx : Cx) (β : Bm), RelS cx β (subS a b) (.int .i64 ((a : Int) - (b : Int)))
  | a, 0, ha, _, cx, β => by simp only [subS, subT, RelS, isI_lim]; exact ⟨by simp, ha⟩
  | 0, b + 1, _, hb, cx, β => by simp only [subS, subT, RelS]; exact ⟨congrArg _ (by omega), by omega, by omega⟩
  | a + 1, b + 1, ha, hb, cx, β => by
    have := subS_rel a b (by omega) (by omega) cx β
    rw [show ((a + 1 : Nat) : Int) - ((b + 1 : Nat) : Int) = (a : Int) - (b : Int) by omega]
    simpa only [subS, subT] using this

theorem binI_run {m : SubMode} {op : BinOp} {a b : Nat} {t : Tr SV} {v : SV} (ha : a < 9223372036854775808) (hb : b < 9223372036854775808) (h : binI m op a b = some t) (hg : t.get = some v) (hsh : isSh op = false) :
    ∃ cv, (Go.binOp op 0 (.int .i64 a) (.int .i64 b)).run P w = .ok cv w ∧ ∀ (cx : Cx) (β : Bm), RelS cx β v cv := by
  have key : ∀ (x : Nat), (Go.binOp op 0 (.int .i64 a) (.int .i64 b)).run P w = .ok (.int .i64 x) w → x < 9223372036854775808 → v = .nat .i64 x → ∃ cv, (Go.binOp op 0 (.int .i64 a) (.int .i64 b)).run P w = .ok cv w ∧ ∀ (cx : Cx) (β : Bm), RelS cx β v cv := by
    intro x e2 hx e3
    subst e3
    exact ⟨_, e2, fun cx β => ⟨rfl, hx⟩⟩
  have hab : IntKind.i64.bits = 64 := rfl
  unfold binI at h
  split at h
  · cases h
    obtain ⟨h0, hg⟩ := Tr.need_get hg
    cases hg
    have h0 : a + b < 9223372036854775808 := of_decide_eq_true h0
    refine key (a + b) ?_ h0 rfl
    simp only [Go.binOp, Op.intArith, ne_eq, not_true, if_false, Sem.run_pure]
    rw [wrap_i (by omega) (by omega)]; simp
  · have hs : (Go.binOp .sub 0 (.int .i64 a) (.int .i64 b)).run P w = .ok (.int .i64 ((a : Int) - (b : Int))) w := by
      simp only [Go.binOp, Op.intArith, ne_eq, not_true, if_false, Sem.run_pure]
      rw [wrap_i (by omega) (by omega)]
    split at h
    · cases h
      obtain ⟨h0, hg⟩ := Tr.need_get hg
      cases hg
      have h0 : b ≤ a := of_decide_eq_true h0
      exact key (a - b) (by rw [hs, Int.natCast_sub h0]) (by omega) rfl
    · cases h; cases hg
      exact ⟨_, hs, fun cx β => subS_rel a b ha hb cx β⟩
    · cases h; cases hg
      exact ⟨_, hs, fun cx β => ⟨rfl, by omega, by omega⟩⟩
  · cases h
    obtain ⟨h0, hg⟩ := Tr.need_get hg
    cases hg
    have h0 : a * b < 9223372036854775808 := of_decide_eq_true h0
    refine key (a * b) ?_ h0 rfl
    simp only [Go.binOp, Op.intArith, ne_eq, not_true, if_false, Sem.run_pure]
    rw [← Int.natCast_mul, wrap_i (by omega) (by omega)]
  · cases h
    obtain ⟨h0, hg⟩ := Tr.need_get hg
    cases hg
    have h0 : 0 < b := of_decide_eq_true h0
    have hlt : a / b < 9223372036854775808 := Nat.lt_of_le_of_lt (Nat.div_le_self _ _) ha
    refine key (a / b) ?_ hlt rfl
    simp only [Go.binOp, Op.intDiv, ne_eq, not_true, if_false, tdiv_nat]
    generalize a / b = q at *
    rw [if_neg (by omega), wrap_i (by omega) (by omega)]; rfl
  · cases h
    obtain ⟨h0, hg⟩ := Tr.need_get hg
    cases hg
    have h0 : 0 < b := of_decide_eq_true h0
    refine key (a % b) ?_ (Nat.lt_of_le_of_lt (Nat.mod_le _ _) ha) rfl
    simp only [Go.binOp, Op.intDiv, ne_eq, not_true, if_false, tmod_nat]
    rw [if_neg (by omega)]; rfl
  · cases h; cases hg
    have hx : a &&& b < 9223372036854775808 := Nat.lt_of_le_of_lt Nat.and_le_left ha
    refine key (a &&& b) ?_ hx rfl
    simp only [Go.binOp, ne_eq, not_true, if_false]
    exact bits_run _ .i64 a b _ (by rw [hab]; omega) (by rw [hab]; omega) hx (.inl ⟨rfl, rfl⟩)
  · cases h; cases hg
    have hx : a ||| b < 9223372036854775808 := Nat.or_lt_two_pow (n := 63) ha hb
    refine key (a ||| b) ?_ hx rfl
    simp only [Go.binOp, ne_eq, not_true, if_false]
    exact bits_run _ .i64 a b _ (by rw [hab]; omega) (by rw [hab]; omega) hx (.inr (.inl ⟨rfl, rfl⟩))
  · cases h; cases hg
    have hx : a ^^^ b < 9223372036854775808 := Nat.xor_lt_two_pow (n := 63) ha hb
    refine key (a ^^^ b) ?_ hx rfl
    simp only [Go.binOp, ne_eq, not_true, if_false]
    exact bits_run _ .i64 a b _ (by rw [hab]; omega) (by rw [hab]; omega) hx (.inr (.inr ⟨rfl, rfl⟩))
  · split at h
    · rename_i v' hv
      cases h; cases hg
      obtain ⟨cv, h1, h2⟩ := cmpN_run (P := P) (w := w) hv
      refine ⟨cv, ?_, h2⟩
      cases op <;> simp [cmpN] at hv <;> simpa [Go.binOp] using h1
    · cases h

theorem inI_spec {z : Int} (h : inI z = true) : -9223372036854775808 ≤ z ∧ z < 9223372036854775808 := by simpa [inI] using h

theorem binZ_run {op : BinOp} {a b : Int} {t : Tr SV} {v : SV} (ha : -9223372036854775808 ≤ a ∧ a < 9223372036854775808) (hb : -9223372036854775808 ≤ b ∧ b < 9223372036854775808) (h : binZ op a b = some t) (hg : t.get = some v) (hsh : isSh op = false) :
    ∃ cv, (Go.binOp op 0 (.int .i64 a) (.int .i64 b)).run P w = .ok cv w ∧ ∀ (cx : Cx) (β : Bm), RelS cx β v cv := by
  have key : ∀ (x : Int), (Go.binOp op 0 (.int .i64 a) (.int .i64 b)).run P w = .ok (.int .i64 x) w → -9223372036854775808 ≤ x ∧ x < 9223372036854775808 → v = .int x → ∃ cv, (Go.binOp op 0 (.int .i64 a) (.int .i64 b)).run P w = .ok cv w ∧ ∀ (cx : Cx) (β : Bm), RelS cx β v cv := by
    intro x e2 hx e3
    subst e3
    exact ⟨_, e2, fun cx β => ⟨rfl, hx.1, hx.2⟩⟩
  unfold binZ at h
  split at h
  · cases h
    obtain ⟨h0, hg⟩ := Tr.need_get hg
    cases hg
    have h0 := inI_spec h0
    refine key (a + b) ?_ h0 rfl
    simp only [Go.binOp, Op.intArith, ne_eq, not_true, if_false, Sem.run_pure]
    rw [wrap_i (by omega) (by omega)]
  · cases h
    obtain ⟨h0, hg⟩ := Tr.need_get hg
    cases hg
    have h0 := inI_spec h0
    refine key (a - b) ?_ h0 rfl
    simp only [Go.binOp, Op.intArith, ne_eq, not_true, if_false, Sem.run_pure]
    rw [wrap_i (by omega) (by omega)]
  · cases h
    obtain ⟨h0, hg⟩ := Tr.need_get hg
    cases hg
    have h0 := inI_spec h0
    refine key (a * b) ?_ h0 rfl
    simp only [Go.binOp, Op.intArith, ne_eq, not_true, if_false, Sem.run_pure]
    rw [wrap_i h0.1 h0.2]
  · cases h
    obtain ⟨h0, hg⟩ := Tr.need_get hg
    cases hg
    have h0 : 0 < b := of_decide_eq_true h0
    have hr : -9223372036854775808 ≤ a.tdiv b ∧ a.tdiv b < 9223372036854775808 := by
      have h1 : (a.tdiv b).natAbs ≤ a.natAbs := by rw [Int.natAbs_tdiv]; exact Nat.div_le_self _ _
      rcases Int.lt_or_le a 0 with h2 | h2
      · have : 0 ≤ (-a).tdiv b := Int.tdiv_nonneg (by omega) (by omega)
        rw [Int.neg_tdiv] at this
        omega
      · have : 0 ≤ a.tdiv b := Int.tdiv_nonneg h2 (by omega)
        omega
    refine key (a.tdiv b) ?_ hr rfl
    simp only [Go.binOp, Op.intDiv, ne_eq, not_true, if_false]
    rw [if_neg (by omega), wrap_i hr.1 hr.2]; rfl
  · cases h
    obtain ⟨h0, hg⟩ := Tr.need_get hg
    cases hg
    have h0 : 0 < b := of_decide_eq_true h0
    have hr : -9223372036854775808 ≤ a.tmod b ∧ a.tmod b < 9223372036854775808 := by
      have h1 : (a.tmod b).natAbs ≤ a.natAbs := by rw [Int.natAbs_tmod]; exact Nat.mod_le _ _
      rcases Int.lt_or_le a 0 with h2 | h2
      · have : 0 ≤ (-a).tmod b := Int.tmod_nonneg b (by omega)
        rw [Int.neg_tmod] at this
        omega
      · have : 0 ≤ a.tmod b := Int.tmod_nonneg b h2
        omega
    refine key (a.tmod b) ?_ hr rfl
    simp only [Go.binOp, Op.intDiv, ne_eq, not_true, if_false]
    rw [if_neg (by omega)]; rfl
  · split at h
    · rename_i v' hv
      cases h; cases hg
      obtain ⟨cv, h1, h2⟩ := cmpZ_run (P := P) (w := w) hv
      refine ⟨cv, ?_, h2⟩
      cases op <;> simp [cmpZ] at hv <;> simpa [Go.binOp] using h1
    · cases h

end
end Go.Proofs.Ytgebgjhjegadpaa

namespace Go.Proofs.Ytgebgjhjegadpaa
open Go

section
variable {P : Program} {cx : Cx} {Wr : Nat → Prop} {β : Bm} {H : Nat → Option Blk} {D : Nat → Prop} {w : World}

theorem shN_run {op : BinOp} {k ky : IntKind} {a s : Nat} {t : Tr SV} {v : SV} (ha : a < lim k) (h : shN op k a s = some t) (hg : t.get = some v) :
    ∃ cv, (Op.shift op k (a : Int) ky (s : Int)).run P w = .ok cv w ∧ ∀ (cx : Cx) (β : Bm), RelS cx β v cv := by
  have hneg : ¬ ((s : Int) < 0) := by omega
  unfold shN at h
  split at h
  · split at h
    · rename_i hu
      cases h; cases hg
      have hl := lim_bits hu
      refine ⟨.int k ((a * 2 ^ s % lim k : Nat) : Int), ?_, fun cx β => ⟨rfl, Nat.mod_lt _ (lim_pos k)⟩⟩
      simp only [Op.shift, hneg, if_false, Sem.run_pure, wrap_u hu]
      congr 2
      have e : a * 2 ^ min s k.bits % lim k = a * 2 ^ s % lim k := by
        rcases Nat.le_total s k.bits with h1 | h1
        · rw [Nat.min_eq_left h1]
        · rw [Nat.min_eq_right h1, hl]
          obtain ⟨d, rfl⟩ := Nat.le.dest h1
          rw [Nat.pow_add, ← Nat.mul_assoc, Nat.mul_mod_left, Nat.mul_right_comm, Nat.mul_mod_left]
      rw [← e]
      simp
    · split at h
      · cases h
        obtain ⟨h0, hg⟩ := Tr.need_get hg
        cases hg
        simp only [Bool.and_eq_true, decide_eq_true_eq] at h0
        obtain ⟨h1, h2⟩ := h0
        refine ⟨.int .i64 ((a * 2 ^ s : Nat) : Int), ?_, fun cx β => ⟨rfl, h2⟩⟩
        simp only [Op.shift, hneg, if_false, Sem.run_pure]
        have e : min ((s : Int).toNat) IntKind.i64.bits = s := by simp [IntKind.bits]; omega
        rw [e]
        have e2 : (a : Int) * 2 ^ s = ((a * 2 ^ s : Nat) : Int) := by simp
        rw [e2]
        generalize a * 2 ^ s = q at *
        rw [wrap_i (by omega) (by omega)]
      · cases h
  · have key : ∀ (b : Nat), a < 2 ^ b → (a : Int).fdiv (2 ^ min ((s : Int).toNat) b) = ((a / 2 ^ s : Nat) : Int) := by
      intro b hb
      rw [Int.fdiv_eq_ediv_of_nonneg _ (Int.pow_nonneg (by omega))]
      rcases Nat.le_total s b with h1 | h1
      · rw [show min ((s : Int).toNat) b = s by simp; omega]; simp
      · rw [show min ((s : Int).toNat) b = b by simp; omega]
        rw [Nat.div_eq_of_lt (Nat.lt_of_lt_of_le hb (Nat.pow_le_pow_right (by omega) h1))]
        have := Nat.div_eq_of_lt hb
        have e : (a : Int) / 2 ^ b = ((a / 2 ^ b : Nat) : Int) := by simp
        rw [e, this]
    split at h
    · rename_i hu
      cases h; cases hg
      refine ⟨.int k ((a / 2 ^ s : Nat) : Int), ?_, fun cx β => ⟨rfl, Nat.lt_of_le_of_lt (Nat.div_le_self _ _) ha⟩⟩
      simp only [Op.shift, hneg, if_false, Sem.run_pure]
      rw [key k.bits (lim_bits hu ▸ ha)]
    · split at h
      · cases h; cases hg
        refine ⟨.int .i64 ((a / 2 ^ s : Nat) : Int), ?_, fun cx β => ⟨rfl, Nat.lt_of_le_of_lt (Nat.div_le_self _ _) ha⟩⟩
        simp only [Op.shift, hneg, if_false, Sem.run_pure]
        rw [key IntKind.i64.bits (Nat.lt_of_lt_of_le ha (by decide))]
      · cases h
  · cases h

theorem binOp_sh {op : BinOp} (h : isSh op = true) (t : TypeId) (k ky : IntKind) (a b : Int) : Go.binOp op t (.int k a) (.int ky b) = Op.shift op k a ky b := by
  cases op <;> simp [isSh] at h <;> rfl

theorem binOp_t {op : BinOp} (h : isSh op = false) (t : TypeId) (k ky : IntKind) (a b : Int) : Go.binOp op t (.int k a) (.int ky b) = Go.binOp op 0 (.int k a) (.int ky b) := by
  cases op <;> simp [isSh] at h <;> rfl

theorem bytes_inj {a b : ByteArray} (h : a.data.toList.map (·.toNat) = b.data.toList.map (·.toNat)) : a = b := by
  have : a.data.toList = b.data.toList := by
    have hinj : ∀ (l m : List UInt8), l.map (·.toNat) = m.map (·.toNat) → l = m := by
      intro l
      induction l with
      | nil => intro m h; cases m <;> simp at h; rfl
      | cons x l ih =>
        intro m h
        cases m with
        | nil => simp at h
        | cons y m =>
          simp only [List.map_cons, List.cons.injEq] at h
          rw [UInt8.toNat.inj h.1, ih m h.2]
    exact hinj _ _ h
  cases a; cases b
  congr 1
  exact Array.toList_inj.1 this

theorem str_eq {a b : ByteArray} : (a.toList == b.toList) = decide (a.data.toList.map (·.toNat) = b.data.toList.map (·.toNat)) := by
  rw [ByteArray.toList_eq, ByteArray.toList_eq, Bool.eq_iff_iff]
  simp only [beq_iff_eq, decide_eq_true_eq]
  exact ⟨fun h => by rw [h], fun h => by rw [bytes_inj h]⟩

theorem binSem_run {m : SubMode} {op : BinOp} {ty : TypeId} {x y : SV} {cx1 cy1 : Value} {t : Tr SV} {v : SV} (hx : RelS cx β x cx1) (hy : RelS cx β y cy1) (h : binSem m op x y = some t) (hg : t.get = some v) :
    ∃ cv, (Go.binOp op ty cx1 cy1).run P w = .ok cv w ∧ RelS cx β v cv := by
  unfold binSem at h
  split at h
  · rename_i k a k' b
    obtain ⟨rfl, ha⟩ := hx
    obtain ⟨rfl, hb⟩ := hy
    split at h
    · rename_i hs
      rw [binOp_sh hs]
      obtain ⟨cv, h1, h2⟩ := shN_run (P := P) (w := w) (ky := k') ha h hg
      exact ⟨cv, h1, h2 _ _⟩
    · rename_i hs
      rw [binOp_t hs]
      split at h
      · rename_i hk
        obtain rfl : k = k' := of_decide_eq_true hk
        split at h
        · rename_i hu
          obtain ⟨cv, h1, h2⟩ := binU_run (P := P) (w := w) hu ha hb h hg hs
          exact ⟨cv, h1, h2 _ _⟩
        · split at h
          · obtain ⟨cv, h1, h2⟩ := binI_run (P := P) (w := w) ha hb h hg hs
            exact ⟨cv, h1, h2 _ _⟩
          · cases h
      · cases h
  · rename_i k a z
    obtain ⟨rfl, ha⟩ := hx
    obtain ⟨rfl, hz⟩ := hy
    split at h
    · rename_i hs
      rw [binOp_sh hs]
      split at h
      · rename_i t' ht
        cases h
        obtain ⟨h0, hg⟩ := Tr.need_get hg
        have h0 : 0 ≤ z := of_decide_eq_true h0
        obtain ⟨cv, h1, h2⟩ := shN_run (P := P) (w := w) (ky := .i64) ha ht hg
        rw [Int.toNat_of_nonneg h0] at h1
        exact ⟨cv, h1, h2 _ _⟩
      · cases h
    · rename_i hs
      rw [binOp_t hs]
      split at h
      · have ha' : a < 9223372036854775808 := ha
        obtain ⟨cv, h1, h2⟩ := binZ_run (P := P) (w := w) ⟨by omega, by omega⟩ hz h hg hs
        exact ⟨cv, h1, h2 _ _⟩
      · cases h
  · rename_i z k b
    obtain ⟨rfl, hz⟩ := hx
    obtain ⟨rfl, hb⟩ := hy
    split at h
    · cases h
    · rename_i hs
      rw [binOp_t hs]
      split at h
      · have hb' : b < 9223372036854775808 := hb
        obtain ⟨cv, h1, h2⟩ := binZ_run (P := P) (w := w) hz ⟨by omega, by omega⟩ h hg hs
        exact ⟨cv, h1, h2 _ _⟩
      · cases h
  · rename_i y z
    obtain ⟨rfl, hy'⟩ := hx
    obtain ⟨rfl, hz⟩ := hy
    have hs : isSh op = false := by
      cases op <;> first | rfl | simp [binZ, cmpZ] at h
    rw [binOp_t hs]
    obtain ⟨cv, h1, h2⟩ := binZ_run (P := P) (w := w) hy' hz h hg hs
    exact ⟨cv, h1, h2 _ _⟩
  · rename_i a b
    obtain ⟨ba, rfl, rfl⟩ := hx
    obtain ⟨bb, rfl, rfl⟩ := hy
    split at h
    · cases h
      obtain ⟨h0, hg⟩ := Tr.need_get hg
      cases hg
      have h0 := of_decide_eq_true h0
      simp only [List.length_map, Array.length_toList] at h0
      refine ⟨.string (ba ++ bb), ?_, ba ++ bb, rfl, by simp⟩
      have : ¬ (((ba.size + bb.size : Nat) : Int) > IntKind.i64.max) := by
        simp only [IntKind.max, IntKind.signed, IntKind.bits, if_true]
        have e1 : ba.size = ba.data.size := rfl
        have e2 : bb.size = bb.data.size := rfl
        omega
      simp only [Go.binOp, Op.stringOp]
      rw [if_neg this]; rfl
    · cases h; cases hg
      refine ⟨_, rfl, ?_⟩
      simp only [RelS, Value.bool.injEq]
      exact str_eq
    · cases h; cases hg
      refine ⟨_, rfl, ?_⟩
      simp only [RelS, Value.bool.injEq]
      rw [str_eq]
    · cases h
  · cases h

end
end Go.Proofs.Ytgebgjhjegadpaa

namespace Go.Proofs.Ytgebgjhjegadpaa
open Go

section
variable {P : Program} {cx : Cx} {Wr : Nat → Prop} {β : Bm} {H : Nat → Option Blk} {D : Nat → Prop} {w : World}

theorem aggO_run {o : Option (List Ch)} {t : Tr Out} {rd : List Nat} {out : Out} (h : (aggO o).run H = some (t, rd)) (hg : t.get = some out) : ∃ cs, o = some cs ∧ out = Out.val (.agg cs) := by
  unfold aggO at h
  split at h
  · simp only [RM.run, Option.some.injEq, Prod.mk.injEq] at h
    obtain ⟨rfl, _⟩ := h
    simp only [Tr.get, Option.some.injEq] at hg
    exact ⟨_, rfl, hg.symm⟩
  · simp [RM.run] at h

theorem pure_run {α : Type} {x t : α} {rd : List Nat} (h : (RM.pure x).run H = some (t, rd)) : t = x := by
  simp only [RM.run, Option.some.injEq, Prod.mk.injEq] at h
  exact h.1.symm

theorem fail_run {α : Type} {t : α} {rd : List Nat} (h : (RM.fail : RM α).run H = some (t, rd)) : False := by simp [RM.run] at h

theorem oneT_get {v : SV} {out : Out} (h : (oneT v).get = some out) : out = Out.val (.s v) := by
  simp only [oneT, Tr.get, Option.some.injEq] at h
  exact h.symm

theorem leaf_get {o out : Out} (h : (Tr.leaf o).get = some out) : out = o := by
  simp only [Tr.get, Option.some.injEq] at h
  exact h.symm

theorem cellO_run {o : Option (List Bool × SV)} {t : Tr Out} {rd : List Nat} {out : Out} (h : (cellO o).run H = some (t, rd)) (hg : t.get = some out) : ∃ r v, o = some (r, v) ∧ (∀ b ∈ r, b = true) ∧ out = Out.val (.s v) := by
  unfold cellO at h
  split at h
  · obtain rfl := pure_run h
    obtain ⟨h1, h2⟩ := Tr.needs_get hg
    exact ⟨_, _, rfl, h1, oneT_get h2⟩
  · exact (fail_run h).elim

theorem run_loadVar_agg {t : TypeId} {sz b o : Nat} {l : List Value} (h1 : isAggT P t = some true) (h2 : tySize P t = some sz) (hl : l.length = sz) (hc : ∀ i v, l[i]? = some v → w.cell? ⟨b, o + i, none⟩ = some v) :
    (loadVar t ⟨b, o, none⟩).run P w = .ok (.agg l.toArray) w := by
  simp only [loadVar, Sem.run_bind, run_isAgg' h1, Result.andThen_ok, if_true, run_sizeOf' h2, run_cells hc hl, Sem.run_pure]

theorem run_loadVar_one {t : TypeId} {b o : Nat} {v : Value} (h1 : isAggT P t = some false) (hc : w.cell? ⟨b, o, none⟩ = some v) :
    (loadVar t ⟨b, o, none⟩).run P w = .ok v w := by
  simp only [loadVar, Sem.run_bind, run_isAgg' h1, Result.andThen_ok, Bool.false_eq_true, if_false, run_load, hc]

theorem subB_cells {cs : List Ch} {off sz : Nat} {r : List Ch} {l : List Value} (h : subB off sz cs = some r) (hl : RelC cx β cs l) : RelC cx β r ((l.drop off).take sz) ∧ ((l.drop off).take sz).length = sz := by
  refine ⟨subB_rel h hl, ?_⟩
  by_cases h0 : sz = 0
  · subst h0; simp
  · have := subB_le h h0 hl
    simp; omega

theorem loadPtr_run {t : TypeId} {b off : Nat} {tr : Tr Out} {rd : List Nat} {out : Out} {cv : Value} (h : (loadPtr P t b off).run H = some (tr, rd)) (hg : tr.get = some out) (hH : RelH cx Wr β H D w) (hv : RelP β (b, off) cv) :
    ∃ x, (Instr.loadAt t cv).run P w = .ok x w ∧ Post cx Wr β H D out x w := by
  obtain ⟨q, hq, rfl⟩ := hv
  obtain ⟨cs, l', hcs, hk, _⟩ := RM.run_look h
  obtain ⟨l, hl, hcell⟩ := (hH.held _ _ _ hq hcs).cells
  split at hk
  · rename_i ha
    split at hk
    · rename_i sz hsz
      obtain ⟨r, hr, rfl⟩ := aggO_run hk hg
      obtain ⟨h1, h2⟩ := subB_cells hr hl
      refine ⟨_, ?_, post_val hH (RelV.of1 ⟨_, rfl, h1⟩)⟩
      simp only [Instr.loadAt, Instr.sureAddr, Sem.run_bind, Sem.run_pure, Result.andThen_ok]
      exact run_loadVar_agg ha hsz h2 (fun i v e => by rw [Nat.add_assoc]; exact hcell _ _ (drop_take_get e))
    · exact (fail_run hk).elim
  · rename_i ha
    obtain ⟨r, v, hc, hr, rfl⟩ := cellO_run hk hg
    obtain ⟨cv, h1, h2⟩ := getC_rel _ _ _ _ _ hc hr hl
    refine ⟨cv, ?_, post_val hH h2⟩
    simp only [Instr.loadAt, Instr.sureAddr, Sem.run_bind, Sem.run_pure, Result.andThen_ok]
    exact run_loadVar_one ha (hcell _ _ h1)
  · exact (fail_run hk).elim

theorem relC_ints {k : IntKind} {xs : List Nat} (h : ∀ x ∈ xs, x < lim k) : RelC cx β [.ints k xs.length xs] (xs.map fun x : Nat => Value.int k x) :=
  ⟨rfl, h, [], by simp, rfl⟩

theorem RdI.lim {k : IntKind} {xs : List Nat} {b o : Nat} (h : RdI cx k xs b o) : ∀ x ∈ xs, x < Go.Proofs.Ytgebgjhjegadpaa.lim k := by
  intro x hx
  obtain ⟨i, hi⟩ := List.mem_iff_getElem?.1 hx
  exact (h i x hi).2.2

theorem RdI.cut {k : IntKind} {xs : List Nat} {b o : Nat} (h : RdI cx k xs b o) (a n : Nat) : RdI cx k ((xs.drop a).take n) b (o + a) := by
  intro i x e
  have := h (a + i) x (by
    rw [List.getElem?_take] at e
    split at e
    · simpa using e
    · cases e)
  rwa [← Nat.add_assoc] at this

theorem RdI.cells {k : IntKind} {xs : List Nat} {b o : Nat} (hH : RelH cx Wr β H D w) (h : RdI cx k xs b o) : ∀ i v, (xs.map fun x : Nat => Value.int k x)[i]? = some v → w.cell? ⟨b, o + i, none⟩ = some v := by
  intro i v e
  rw [List.getElem?_map, Option.map_eq_some_iff] at e
  obtain ⟨x, hx, rfl⟩ := e
  obtain ⟨h1, h2, _⟩ := h i x hx
  rw [hH.cell h1, h2]

theorem getD_some {α : Type} {xs : List α} {i : Nat} {d : α} (h : i < xs.length) : xs[i]? = some (xs.getD i d) := by
  simp [List.getD, List.getElem?_eq_getElem h]

theorem loadX_run {t : TypeId} {c : XC} {i : Nat} {tr : Tr Out} {rd : List Nat} {out : Out} {cv : Value} (h : (loadX P t c i).run H = some (tr, rd)) (hg : tr.get = some out) (hH : RelH cx Wr β H D w) (hv : RelS cx β (.xptr c i) cv) :
    ∃ x, (Instr.loadAt t cv).run P w = .ok x w ∧ Post cx Wr β H D out x w := by
  obtain ⟨b, o, rfl, hx⟩ := hv
  have e0 : (Instr.loadAt t (.pointer (some ⟨b, o + i * c.sz, none⟩))) = loadVar t ⟨b, o + i * c.sz, none⟩ := rfl
  rw [e0]
  unfold loadX at h
  split at h
  · rename_i ha
    split at h
    · rename_i k xs
      obtain rfl := pure_run h
      obtain ⟨h0, hg⟩ := Tr.need_get hg
      obtain rfl := oneT_get hg
      have h0 := of_decide_eq_true h0
      obtain ⟨h1, h2, h3⟩ := hx _ _ (getD_some (d := 0) h0)
      refine ⟨_, run_loadVar_one ha (v := .int k (xs.getD i 0)) ?_, post_val hH (RelV.of1 ⟨rfl, h3⟩)⟩
      simp only [XC.sz, Nat.mul_one]
      rw [hH.cell h1, h2]
    · rename_i xss
      obtain rfl := pure_run h
      obtain ⟨h0, hg⟩ := Tr.need_get hg
      obtain rfl := oneT_get hg
      have h0 := of_decide_eq_true h0
      obtain ⟨h1, cv, h2, h3⟩ := hx _ _ (getD_some (d := []) h0)
      refine ⟨cv, run_loadVar_one ha ?_, post_val hH (RelV.of1 (v := .s _) ?_)⟩
      · simp only [XC.sz, Nat.mul_one]
        rw [hH.cell h1, h2]
      · rcases h3 with ⟨h3, h4⟩ | ⟨b', o', cap, h4, h5, h6⟩
        · exact .inl ⟨by simp only [XC.len, h3]; rfl, h4⟩
        · exact .inr ⟨b', o', cap, h4, h5, h6⟩
    · exact (fail_run h).elim
  · rename_i ha
    split at h
    · rename_i sz hsz
      split at h
      · rename_i k xs
        obtain rfl := pure_run h
        obtain ⟨h0, hg⟩ := Tr.need_get hg
        obtain rfl := leaf_get hg
        have h0 := of_decide_eq_true h0
        have hc := RdI.cut hx i sz
        have hlen : ((xs.drop i).take sz).length = sz := by simp; omega
        have hcells := RdI.cells hH hc
        generalize (xs.drop i).take sz = ys at *
        simp only [XC.sz, Nat.mul_one]
        refine ⟨_, run_loadVar_agg ha hsz (by simpa using hlen) hcells, post_val hH (RelV.of1 ⟨_, rfl, ?_⟩)⟩
        have := relC_ints (cx := cx) (β := β) hc.lim
        rwa [hlen] at this
      · rename_i k n xss
        split at h
        · rename_i hn
          obtain rfl : n = sz := Nat.eq_of_beq_eq_true hn
          obtain rfl := pure_run h
          obtain ⟨h0, hg⟩ := Tr.need_get hg
          obtain rfl := leaf_get hg
          have h0 := of_decide_eq_true h0
          obtain ⟨h1, h2⟩ := hx _ _ (getD_some (d := []) h0)
          refine ⟨_, run_loadVar_agg ha hsz (by simpa using h1) (RdI.cells hH h2), post_val hH (RelV.of1 ⟨_, rfl, ?_⟩)⟩
          have := relC_ints (cx := cx) (β := β) h2.lim
          rwa [h1] at this
        · exact (fail_run h).elim
      · exact (fail_run h).elim
    · exact (fail_run h).elim
  · exact (fail_run h).elim

theorem loadSem_run {t : TypeId} {x : AV} {tr : Tr Out} {rd : List Nat} {out : Out} {cv : Value} (h : (loadSem P t x).run H = some (tr, rd)) (hg : tr.get = some out) (hH : RelH cx Wr β H D w) (hv : RelV cx β x cv) :
    ∃ x, (Instr.loadAt t cv).run P w = .ok x w ∧ Post cx Wr β H D out x w := by
  unfold loadSem at h
  split at h
  · exact loadPtr_run h hg hH hv
  · exact loadX_run h hg hH hv
  · exact (fail_run h).elim

/-! Stores. -/
theorem setCells_heap (b : Nat) : ∀ (vs : List Value) (o : Nat) (w : World) (c : Array Value) (T : TypeId) (fr : Nat × Nat), w.heap[b]? = some (.cells c T fr) →
    ∃ c', (w.setCells b o vs).heap[b]? = some (.cells c' T fr) ∧ c'.size = c.size ∧ ∀ i, c'[i]? = if o ≤ i ∧ i < o + vs.length ∧ i < c.size then vs[i - o]? else c[i]?
  | [], o, w, c, T, fr, h => ⟨c, h, rfl, fun i => by rw [if_neg (by simp; omega)]⟩
  | v :: vs, o, w, c, T, fr, h => by
    have h1 : (w.setCell ⟨b, o, none⟩ v).heap[b]? = some (.cells (c.setIfInBounds o v) T fr) := by
      simp [World.setCell, Array.getElem?_modify, h]
    obtain ⟨c', h2, h3, h4⟩ := setCells_heap b vs (o + 1) _ _ _ _ h1
    refine ⟨c', h2, by simpa using h3, fun i => ?_⟩
    rw [h4 i]
    simp only [Array.size_setIfInBounds, List.length_cons]
    by_cases hi : o + 1 ≤ i ∧ i < o + 1 + vs.length ∧ i < c.size
    · rw [if_pos hi, if_pos (by omega)]
      obtain ⟨d, rfl⟩ : ∃ d, i = o + 1 + d := ⟨i - (o + 1), by omega⟩
      rw [show o + 1 + d - (o + 1) = d by omega, show o + 1 + d - o = d + 1 by omega]
      rfl
    · rw [if_neg hi]
      by_cases ho : i = o
      · subst ho
        by_cases hs : i < c.size
        · rw [if_pos (by omega)]; simp [hs]
        · rw [if_neg (by omega)]; simp [hs]
      · rw [if_neg (by omega)]
        simp [Array.getElem?_setIfInBounds_ne (show o ≠ i by omega)]

theorem setCells_other (b : Nat) : ∀ (vs : List Value) (o : Nat) (w : World), ((w.setCells b o vs).heap.size = w.heap.size ∧ (w.setCells b o vs).os = w.os ∧ (w.setCells b o vs).tape = w.tape ∧ (w.setCells b o vs).output = w.output) ∧
    ∀ k, k ≠ b → (w.setCells b o vs).heap[k]? = w.heap[k]?
  | [], _, _ => ⟨⟨rfl, rfl, rfl, rfl⟩, fun _ _ => rfl⟩
  | v :: vs, o, w => by
    obtain ⟨⟨h1, h2, h3, h4⟩, h5⟩ := setCells_other b vs (o + 1) (w.setCell ⟨b, o, none⟩ v)
    refine ⟨⟨by simpa [World.setCells] using h1, h2, h3, h4⟩, fun k hk => ?_⟩
    simp only [World.setCells]
    rw [h5 k hk, heap_setCell_other _ _ _ _ (by simpa using hk)]

/-- Cells are written into a live block: run, and what is so then. -/
theorem write_run {n : Nat} {q : Pl} {cs cs' : Blk} {o : Nat} {vs : List Value} (hH : RelH cx Wr β H D w) (hq : β n = some q) (hcs : H n = some cs) (h1 : ∀ v ∈ vs, v.oneCell' = true) (hb : o + vs.length ≤ q.size)
    (hn : ∀ l, RelC cx β cs l → ∃ l', RelC cx β cs' l' ∧ l'.length ≤ q.size ∧ ∀ (i : Nat) (v : Value), l'[i]? = some v → if o ≤ i ∧ i < o + vs.length then vs[i - o]? = some v else l[i]? = some v) :
    (storeCells ⟨q.blk, q.base + o, none⟩ vs).run P w = .ok () (w.setCells q.blk (q.base + o) vs) ∧ RelH cx Wr β (fun m => if m = n then some cs' else H m) D (w.setCells q.blk (q.base + o) vs) := by
  have hheld := hH.held n q cs hq hcs
  obtain ⟨c, T, fr, hc, hsz, hfr, l, hl, hlen, hcells⟩ := hheld
  constructor
  · have := run_storeCells_cells (P := P) q.blk (q.base + o) vs 0 w (fun j hj => by
      rw [cell_of_heap hc]; simp; omega) (fun j hj => frozen_of_heap hc (hfr _ (by omega) (by omega))) h1
    simpa using this
  · obtain ⟨⟨s1, s2, s3, s4⟩, s5⟩ := setCells_other q.blk vs (q.base + o) w
    refine hH.write hq hcs s1 s5 s2 s3 s4 ?_
    obtain ⟨c', e1, e2, e3⟩ := setCells_heap q.blk vs (q.base + o) w c T fr hc
    obtain ⟨l', hl', hlen', hv'⟩ := hn l hl
    refine ⟨c', T, fr, e1, by omega, hfr, l', hl', hlen', fun i v hi => ?_⟩
    have hlt : i < l'.length := by
      rcases Nat.lt_or_ge i l'.length with h | h
      · exact h
      · simp [List.getElem?_eq_none h] at hi
    have := hv' i v hi
    rw [e3]
    by_cases hin : o ≤ i ∧ i < o + vs.length
    · rw [if_pos hin] at this
      rw [if_pos (by omega), show q.base + i - (q.base + o) = i - o by omega]
      exact this
    · rw [if_neg hin] at this
      rw [if_neg (by omega)]
      exact hcells i v this

theorem storeSem_run {t : TypeId} {x y : AV} {tr : Tr Out} {rd : List Nat} {out : Out} {cvx cvy : Value} (h : (storeSem P t x y).run H = some (tr, rd)) (hg : tr.get = some out) (hH : RelH cx Wr β H D w) (hx : RelV cx β x cvx) (hy : RelV cx β y cvy) :
    ∃ w', (Instr.storeAt t cvx cvy).run P w = .ok () w' ∧ Post cx Wr β H D out undef w' := by
  have hkey : ∀ {b off sz : Nat} {cs cs' : Blk} {vs : List Value}, RelP β (b, off) cvx → tySize P t = some sz → cvy.cells = vs.toArray → vs.length = sz → H b = some cs → (∀ v ∈ vs, v.oneCell' = true) →
      (∀ l, RelC cx β cs l → off + vs.length ≤ l.length ∧ RelC cx β cs' (l.take off ++ vs ++ l.drop (off + vs.length))) →
      ∃ w', (Instr.storeAt t cvx cvy).run P w = .ok () w' ∧ Post cx Wr β H D ⟨.any, [(b, some cs')], []⟩ undef w' := by
    intro b off sz cs cs' vs hp hsz hvs hlen hcs h1 hn
    obtain ⟨q, hq, rfl⟩ := hp
    have hheld := hH.held b q cs hq hcs
    obtain ⟨c, T, fr, hc, hs, hfr, l, hl, hll, hcells⟩ := hheld
    have hcsz : sizeB cs ≤ q.size := by rw [← hl.length]; exact hll
    have hle0 := (hn l hl).1
    clear hc hs hfr hcells
    obtain ⟨h2, h3⟩ := write_run (P := P) (n := b) (q := q) (o := off) (vs := vs) (cs := cs) (cs' := cs') hH hq hcs h1 (by omega) (fun l hl => by
      obtain ⟨h4, h5⟩ := hn l hl
      refine ⟨_, h5, ?_, fun i v hi => ?_⟩
      · have := hl.length
        simp; omega
      · by_cases hin : off ≤ i ∧ i < off + vs.length
        · rw [if_pos hin]
          rw [List.append_assoc, List.getElem?_append_right (by simp; omega)] at hi
          rw [List.getElem?_append_left (by simp; omega)] at hi
          simpa [Nat.min_eq_left (show off ≤ l.length by omega)] using hi
        · rw [if_neg hin]
          by_cases hlt : i < off
          · rw [List.append_assoc, List.getElem?_append_left (by simp; omega)] at hi
            simpa [List.getElem?_take, hlt] using hi
          · rw [List.getElem?_append_right (by simp; omega)] at hi
            simp only [List.length_append, List.length_take, Nat.min_eq_left (show off ≤ l.length by omega), List.getElem?_drop] at hi
            rwa [show off + vs.length + (i - (off + vs.length)) = i by omega] at hi)
    refine ⟨w.setCells q.blk (q.base + off) vs, ?_, β, Ext.refl β, trivial, ?_⟩
    · simp only [Instr.storeAt, Instr.sureAddr, Sem.run_bind, Sem.run_pure, Result.andThen_ok, storeVar, run_sizeOf' hsz, hvs, List.size_toArray, hlen, ne_eq, not_true, if_false]
      exact h2
    · rw [happ_wr, dapp_wr]; exact h3
  unfold storeSem at h
  split at h
  · rename_i b off v
    split at h
    · rename_i sz hsz
      split at h
      · rename_i h1
        obtain rfl : sz = 1 := Nat.eq_of_beq_eq_true h1
        obtain ⟨cs, l', hcs, hk, _⟩ := RM.run_look h
        unfold storeO at hk
        split at hk
        · rename_i r cs' hset
          obtain rfl := pure_run hk
          obtain ⟨hr, hg⟩ := Tr.needs_get hg
          obtain rfl := leaf_get hg
          have hy' : RelS cx β v cvy := hy
          refine hkey (vs := [cvy]) hx hsz (by rw [oneCell_cells hy'.oneCell]) rfl hcs (by simpa using hy'.oneCell) (fun l hl => ?_)
          obtain ⟨h2, h3⟩ := setC_rel hy' _ _ _ _ _ hset hr hl
          refine ⟨by simp; omega, ?_⟩
          rw [List.set_eq_take_append_cons_drop, if_pos h3] at h2
          simpa using h2
        · exact (fail_run hk).elim
      · exact (fail_run h).elim
    · exact (fail_run h).elim
  · rename_i b off new
    split at h
    · rename_i sz hsz
      split at h
      · rename_i h1
        obtain rfl : sizeB new = sz := Nat.eq_of_beq_eq_true h1
        obtain ⟨cs, l', hcs, hk, _⟩ := RM.run_look h
        unfold storeO at hk
        split at hk
        · rename_i r cs' hset
          obtain rfl := pure_run hk
          obtain ⟨hr, hg⟩ := Tr.needs_get hg
          obtain rfl := leaf_get hg
          unfold putO at hset
          split at hset
          · rename_i cs2 hput
            simp only [Option.some.injEq, Prod.mk.injEq] at hset
            obtain ⟨_, rfl⟩ := hset
            obtain ⟨vs, rfl, hvs⟩ := hy
            refine hkey (vs := vs) hx hsz rfl hvs.length hcs hvs.oneCells (fun l hl => ?_)
            have hle : off + vs.length ≤ l.length := by
              rw [hl.length, hvs.length]; exact putB_le hput
            exact ⟨hle, putB_rel hput hl hvs⟩
          · cases hset
        · exact (fail_run hk).elim
      · exact (fail_run h).elim
    · exact (fail_run h).elim
  · exact (fail_run h).elim

end
end Go.Proofs.Ytgebgjhjegadpaa

namespace Go.Proofs.Ytgebgjhjegadpaa
open Go

section
variable {P : Program} {cx : Cx} {Wr : Nat → Prop} {β : Bm} {H : Nat → Option Blk} {D : Nat → Prop} {w : World}

/-- What names an outcome makes are new. -/
def Fresh (D : Nat → Prop) (out : Out) : Prop := ∀ n, (lkF out.nw n).isSome = true → ¬ D n

theorem lkF_self {α : Type} (n : Nat) (x : α) (r : List (Nat × α)) : lkF ((n, x) :: r) n = some x := by simp [lkF]

theorem newSem_run {nx : Nat} {o : Option (List Ch)} {tr : Tr Out} {rd : List Nat} {out : Out} (h : (newSem nx o).run H = some (tr, rd)) (hg : tr.get = some out) :
    ∃ z, o = some z ∧ out = ⟨.s (.ptr nx 0), [], [(nx, z)]⟩ := by
  unfold newSem at h
  split at h
  · obtain rfl := pure_run h; exact ⟨_, rfl, leaf_get hg⟩
  · exact (fail_run h).elim

theorem alloc_run {nx : Nat} {t : TypeId} {tr : Tr Out} {rd : List Nat} {out : Out} (h : (newSem nx (zeroB P t)).run H = some (tr, rd)) (hg : tr.get = some out) (hH : RelH cx Wr β H D w) (hf : Fresh D out) :
    ∃ x w', (Instr.alloc t true (.tuple #[])).run P w = .ok x w' ∧ Post cx Wr β H D out x w' := by
  obtain ⟨z, hz, rfl⟩ := newSem_run h hg
  obtain ⟨i, v, hi, hv, hr⟩ := zeroB_info hz
  obtain ⟨h1, h2⟩ := post_new (P := P) (T := t) hH (hf nx (by simp [lkF_self])) (hr cx β)
  refine ⟨_, _, ?_, h2⟩
  simp only [Instr.alloc, Sem.run_bind, run_zeroValue' hi hv, Result.andThen_ok, newVar]
  simp only [Array.toArray_toList] at h1
  simp only [h1, Result.andThen_ok, Sem.run_pure, Array.toArray_toList]

theorem box_run {nx : Nat} {t : TypeId} {x : AV} {cv : Value} {tr : Tr Out} {rd : List Nat} {out : Out} (h : (newSem nx x.cells).run H = some (tr, rd)) (hg : tr.get = some out) (hH : RelH cx Wr β H D w) (hx : RelV cx β x cv) (hf : Fresh D out) :
    ∃ x w', (Instr.box t cv).run P w = .ok x w' ∧ Post cx Wr β H D out x w' := by
  obtain ⟨z, hz, rfl⟩ := newSem_run h hg
  obtain ⟨h1, h2⟩ := post_new (P := P) (T := t) hH (hf nx (by simp [lkF_self])) (AV.cells_rel hz hx)
  refine ⟨_, _, ?_, h2⟩
  simp only [Instr.box, newVar, Sem.run_bind]
  simp only [Array.toArray_toList] at h1
  simp only [h1, Result.andThen_ok, Sem.run_pure, Array.toArray_toList]

/-! Structs and arrays, built. -/
theorem foldl_set (v : List Value) : ∀ (k : Nat) (c : Array Value) (off : Nat), off + k + v.length ≤ c.size →
    ((v.zipIdx k).foldl (fun cs (p : Value × Nat) => cs.setIfInBounds (off + p.2) p.1) c).toList = c.toList.take (off + k) ++ v ++ c.toList.drop (off + k + v.length) := by
  induction v with
  | nil => intro k c off h; simp
  | cons x v ih =>
    intro k c off h
    simp only [List.length_cons] at h
    simp only [List.zipIdx_cons, List.foldl_cons]
    rw [ih (k + 1) _ off (by simp; omega)]
    simp only [Array.toList_setIfInBounds, List.length_cons]
    have hlt : off + k < c.toList.length := by simp; omega
    rw [List.set_eq_take_append_cons_drop, if_pos hlt]
    have hA : (c.toList.take (off + k)).length = off + k := by simp; omega
    generalize c.toList.take (off + k) = A at *
    rw [List.take_append, List.take_of_length_le (l := A) (by omega), List.drop_append, List.drop_of_length_le (l := A) (by omega),
      show off + (k + 1) - A.length = 1 by omega, show off + (k + 1) + v.length - A.length = v.length + 1 by omega]
    simp only [List.take_succ_cons, List.take_zero, List.drop_succ_cons, List.nil_append, List.drop_drop, List.append_assoc, List.cons_append]
    rw [show off + k + 1 + v.length = off + k + (v.length + 1) by omega]

theorem fillB_run {f : Nat → Option (Nat × Nat)} {g : Nat → Option (Nat × Nat)} (hfg : ∀ i p, f i = some p → g i = some p) : ∀ (ps : List (Nat × AV)) (vs : List (Nat × Value)) (cs r : List Ch) (c : Array Value),
    fillB f ps cs = some r → RelC cx β cs c.toList → (∀ (j : Nat) (p : Nat × AV), ps[j]? = some p → ∃ cv, vs[j]? = some (p.1, cv) ∧ RelV cx β p.2 cv) → ps.length = vs.length →
    ∃ c', Instr.fill g c vs = some c' ∧ RelC cx β r c'.toList := by
  intro ps
  induction ps with
  | nil =>
    intro vs cs r c h hc hp hl
    cases vs with
    | nil => simp only [fillB, Option.some.injEq] at h; subst h; exact ⟨c, rfl, hc⟩
    | cons v vs => simp at hl
  | cons p ps ih =>
    intro vs cs r c h hc hp hl
    cases vs with
    | nil => simp at hl
    | cons q vs =>
      obtain ⟨i, v⟩ := p
      obtain ⟨cv, hq, hv⟩ := hp 0 _ rfl
      simp only [List.getElem?_cons_zero, Option.some.injEq] at hq
      subst hq
      unfold fillB at h
      split at h
      · rename_i off sz new hfi hcells
        split at h
        · rename_i hsz
          have hsz := Nat.eq_of_beq_eq_true hsz
          split at h
          · rename_i cs' hput
            have hnew := AV.cells_rel hcells hv
            have hle := putB_le hput
            have hlen := hc.length
            have hnl := hnew.length
            have h1 := putB_rel hput hc hnew
            have hb : off + cv.cells.toList.length ≤ c.size := by rw [hnl]; simp at hlen; omega
            have e := foldl_set cv.cells.toList 0 c off (by simpa using hb)
            simp only [Nat.add_zero] at e
            obtain ⟨c', h2, h3⟩ := ih vs cs' r ((cv.cells.toList.zipIdx).foldl (fun cs (p : Value × Nat) => cs.setIfInBounds (off + p.2) p.1) c) h (by rw [e]; exact h1)
              (fun j p hj => by simpa using hp (j + 1) p (by simpa using hj)) (by simpa using hl)
            refine ⟨c', ?_, h3⟩
            simp only [Instr.fill, hfg _ _ hfi]
            have e1 : ¬ (cv.cells.size ≠ sz ∨ off + cv.cells.size > c.size) := by
              have : cv.cells.size = cv.cells.toList.length := by simp
              omega
            rw [if_neg (by simpa using e1)]
            rw [← h2]
            congr 1
            rw [← Array.foldl_toList]
            simp
          · cases h
        · cases h
      · cases h

theorem mapM_places {fs : List Field} (h : (fs.all fun f => (tySize P f.type).isSome) = true) (w : World) :
    ((fs.mapM fun f => (do pure (f.offset, ← sizeOf f.type) : Sem (Nat × Nat))).run P w) = .ok (fs.map fun f => (f.offset, (tySize P f.type).getD 0)) w := by
  induction fs with
  | nil => rfl
  | cons f fs ih =>
    simp only [List.all_cons, Bool.and_eq_true] at h
    obtain ⟨sz, hsz⟩ := Option.isSome_iff_exists.1 h.1
    simp only [List.mapM_cons, Sem.run_bind, run_sizeOf' hsz, Result.andThen_ok, Sem.run_pure, ih h.2, List.map_cons, hsz, Option.getD_some]

theorem placeS_spec {fs : Array Field} {i : Nat} {p : Nat × Nat} (h : placeS P fs i = some p) : ((fs.toList.map fun f => (f.offset, (tySize P f.type).getD 0)).toArray)[i]? = some p := by
  unfold placeS at h
  split at h
  · rename_i f hf
    split at h
    · rename_i sz hsz
      simp only [Option.some.injEq] at h
      subst h
      simp [hf, hsz]
    · cases h
  · cases h

theorem buildSem_run {t : TypeId} {ps : List (Nat × AV)} {vs : Array (Nat × Value)} {tr : Tr Out} {rd : List Nat} {out : Out} (h : (buildSem P t ps).run H = some (tr, rd)) (hg : tr.get = some out) (hH : RelH cx Wr β H D w)
    (hp : ∀ (j : Nat) (p : Nat × AV), ps[j]? = some p → ∃ cv, vs.toList[j]? = some (p.1, cv) ∧ RelV cx β p.2 cv) (hl : ps.length = vs.toList.length) :
    ∃ x, (Instr.build t vs).run P w = .ok x w ∧ Post cx Wr β H D out x w := by
  unfold buildSem at h
  split at h
  · rename_i z hz
    obtain ⟨i, zv, hi, hzv, hr⟩ := zeroB_info hz
    split at h
    · rename_i fs hu
      split at h
      · rename_i hall
        obtain ⟨cs, hfill, rfl⟩ := aggO_run h hg
        obtain ⟨c', h1, h2⟩ := fillB_run (cx := cx) (β := β) (fun i p hi => placeS_spec hi) ps vs.toList z cs zv.cells hfill (hr cx β) hp hl
        refine ⟨.agg c', ?_, post_val hH (RelV.of1 ⟨c'.toList, by simp, h2⟩)⟩
        have hm := mapM_places hall w
        have hm2 : (fs.mapM fun f => (do pure (f.offset, ← sizeOf f.type) : Sem (Nat × Nat))).run P w = .ok ((fs.toList.map fun f => (f.offset, (tySize P f.type).getD 0)).toArray) w := by
          rw [Array.mapM_eq_mapM_toList, Sem.run_map, hm]; rfl
        simp only [Instr.build, Sem.run_bind, run_zeroValue' hi hzv, Result.andThen_ok, run_underlying hu, hm2, h1, Sem.run_pure]
      · exact (fail_run h).elim
    · rename_i n e hu
      split at h
      · rename_i sz hsz
        obtain ⟨cs, hfill, rfl⟩ := aggO_run h hg
        obtain ⟨c', h1, h2⟩ := fillB_run (cx := cx) (β := β) (fun i p hi => hi) ps vs.toList z cs zv.cells hfill (hr cx β) hp hl
        refine ⟨.agg c', ?_, post_val hH (RelV.of1 ⟨c'.toList, by simp, h2⟩)⟩
        simp only [Instr.build, Sem.run_bind, run_zeroValue' hi hzv, Result.andThen_ok, run_underlying hu, run_sizeOf' hsz, h1, Sem.run_pure]
      · exact (fail_run h).elim
    · exact (fail_run h).elim
  · exact (fail_run h).elim

end
end Go.Proofs.Ytgebgjhjegadpaa

namespace Go.Proofs.Ytgebgjhjegadpaa
open Go

section
variable {P : Program} {cx : Cx} {Wr : Nat → Prop} {β : Bm} {H : Nat → Option Blk} {D : Nat → Prop} {w : World}

theorem asIx_run {v : SV} {r : List Bool} {i : Nat} {cv : Value} (h : asIx v = some (r, i)) (hr : ∀ b ∈ r, b = true) (hv : RelS cx β v cv) (w : World) : ∃ k, cv = .int k (i : Int) ∧ (asIntOf cv).run P w = .ok (k, (i : Int)) w := by
  unfold asIx at h
  split at h
  · rename_i k n
    simp only [Option.some.injEq, Prod.mk.injEq] at h
    obtain ⟨_, rfl⟩ := h
    obtain ⟨rfl, _⟩ := hv
    exact ⟨_, rfl, rfl⟩
  · rename_i z
    simp only [Option.some.injEq, Prod.mk.injEq] at h
    obtain ⟨rfl, rfl⟩ := h
    obtain ⟨rfl, _⟩ := hv
    have h0 : 0 ≤ z := by simpa using hr
    rw [← Int.toNat_of_nonneg h0]
    exact ⟨_, rfl, rfl⟩
  · cases h

theorem withIx_run {i : AV} {f : List Bool → Nat → RM (Tr Out)} {tr : Tr Out} {rd : List Nat} {cv : Value} (h : (withIx i f).run H = some (tr, rd)) (hv : RelV cx β i cv) :
    ∃ r n, (f r n).run H = some (tr, rd) ∧ ((∀ b ∈ r, b = true) → ∀ w, ∃ k, cv = .int k (n : Int) ∧ (asIntOf cv).run P w = .ok (k, (n : Int)) w) := by
  unfold withIx at h
  split at h
  · split at h
    · rename_i r n hi
      exact ⟨r, n, h, fun hr w => asIx_run hi hr hv w⟩
    · exact (fail_run h).elim
  · exact (fail_run h).elim

theorem addOff_eq : ∀ (o x : Nat), addOff o x = o + x
  | 0, x => by simp [addOff]
  | o + 1, x => rfl

theorem mulSz_eq (i sz : Nat) : mulSz i sz = i * sz := by
  unfold mulSz
  split
  · simp
  · rfl

theorem addr_add' (b o n : Nat) : (⟨b, o, none⟩ : Addr).add n = ⟨b, o + n, none⟩ := addr_add b o n

theorem all_app {r s : List Bool} (h : ∀ b ∈ r ++ s, b = true) : (∀ b ∈ r, b = true) ∧ (∀ b ∈ s, b = true) :=
  ⟨fun b hb => h b (List.mem_append.2 (.inl hb)), fun b hb => h b (List.mem_append.2 (.inr hb))⟩

theorem run_indexAt_slice {t e : TypeId} {sz len cap i : Nat} {k : IntKind} {b o : Nat} (hu : P.underlying t = some (.slice e)) (hsz : tySize P e = some sz) (hi : i < len) :
    (Instr.indexAt t (.slice (some ⟨b, o, none⟩) len cap) (.int k (i : Int))).run P w = .ok (.pointer (some ⟨b, o + i * sz, none⟩)) w := by
  simp only [Instr.indexAt, asIntOf, Sem.run_bind, Sem.run_pure, Result.andThen_ok, run_underlying hu]
  rw [if_pos (by omega)]
  simp [run_sizeOf' hsz, addr_add]

theorem indexAddrSem_run {t : TypeId} {x i : AV} {tr : Tr Out} {rd : List Nat} {out : Out} {cvx cvi : Value} (h : (indexAddrSem P t x i).run H = some (tr, rd)) (hg : tr.get = some out) (hH : RelH cx Wr β H D w) (hx : RelV cx β x cvx) (hi : RelV cx β i cvi) :
    ∃ y, (Instr.indexAt t cvx cvi).run P w = .ok y w ∧ Post cx Wr β H D out y w := by
  replace h := withIx_run (P := P) h hi
  obtain ⟨r, n, h, hix⟩ := h
  split at h
  · rename_i b off
    split at h
    · rename_i m e hu
      split at h
      · rename_i sz hsz
        obtain rfl := pure_run h
        obtain ⟨hr, hg⟩ := Tr.needs_get hg
        obtain rfl := oneT_get hg
        obtain ⟨hr1, hr2⟩ := all_app hr
        have hlt : n < m := by simpa using hr2
        obtain ⟨k, rfl, _⟩ := hix hr1 w
        obtain ⟨q, hq, rfl⟩ := hx
        refine ⟨.pointer (some ⟨q.blk, q.base + off + n * sz, none⟩), ?_, post_val hH (RelV.of1 ⟨q, hq, by rw [addOff_eq, mulSz_eq, Nat.add_assoc]⟩)⟩
        simp only [Instr.indexAt, asIntOf, Instr.sureAddr, Sem.run_bind, Sem.run_pure, Result.andThen_ok, run_underlying hu]
        rw [if_pos (by omega)]
        simp [run_sizeOf' hsz, addr_add]
      · exact (fail_run h).elim
    · exact (fail_run h).elim
  · rename_i m b off len sz
    unfold ixSl at h
    split at h
    · rename_i e hu
      split at h
      · rename_i sz' hsz
        split at h
        · rename_i hss
          obtain rfl : sz = sz' := Nat.eq_of_beq_eq_true hss
          obtain rfl := pure_run h
          obtain ⟨hr, hg⟩ := Tr.needs_get hg
          obtain rfl := oneT_get hg
          obtain ⟨hr1, hr2⟩ := all_app hr
          have hlt : n < len := by simpa using hr2
          obtain ⟨k, rfl, _⟩ := hix hr1 w
          rcases hx with ⟨h0, _⟩ | ⟨q, cap, x, hq, rfl, hxa, hlc, hsz2⟩
          · omega
          · obtain rfl := hxa (by omega)
            exact ⟨_, run_indexAt_slice hu hsz hlt, post_val hH (RelV.of1 ⟨q, hq, by rw [addOff_eq, mulSz_eq, Nat.add_assoc]⟩)⟩
        · exact (fail_run h).elim
      · exact (fail_run h).elim
    · exact (fail_run h).elim
  · rename_i c
    unfold ixSl at h
    split at h
    · rename_i e hu
      split at h
      · rename_i sz' hsz
        split at h
        · rename_i hss
          obtain rfl := Nat.eq_of_beq_eq_true hss
          obtain rfl := pure_run h
          obtain ⟨hr, hg⟩ := Tr.needs_get hg
          obtain rfl := oneT_get hg
          obtain ⟨hr1, hr2⟩ := all_app hr
          have hlt : n < c.len := by simpa using hr2
          obtain ⟨k, rfl, _⟩ := hix hr1 w
          rcases hx with ⟨h0, _⟩ | ⟨b, o, cap, rfl, hlc, hrd⟩
          · omega
          · exact ⟨_, run_indexAt_slice hu hsz hlt, post_val hH (RelV.of1 ⟨b, o, rfl, hrd⟩)⟩
        · exact (fail_run h).elim
      · exact (fail_run h).elim
    · exact (fail_run h).elim
  · exact (fail_run h).elim

theorem getC_part {e : TypeId} {c : Array Value} {off : Nat} {cv : Value} (ha : isAggT P e = some false) (hc : c.toList[off]? = some cv) : (part e c off).run P w = .ok cv w := by
  have : c[off]? = some cv := by simpa using hc
  simp only [part, Sem.run_bind, run_isAgg' ha, Result.andThen_ok, Bool.false_eq_true, if_false, this, Sem.run_pure]

theorem subB_part {e : TypeId} {c : Array Value} {off sz : Nat} (ha : isAggT P e = some true) (hsz : tySize P e = some sz) : (part e c off).run P w = .ok (.agg ((c.toList.drop off).take sz).toArray) w := by
  simp only [part, Sem.run_bind, run_isAgg' ha, Result.andThen_ok, if_true, run_sizeOf' hsz, Sem.run_pure]
  congr 2
  apply Array.ext'
  simp only [Array.toList_extract, List.extract_eq_take_drop]
  congr 1
  omega

theorem partSem_run {e : TypeId} {off : Nat} {cs : List Ch} {c : Array Value} {tr : Tr Out} {rd : List Nat} {out : Out} (h : (partSem P e off cs).run H = some (tr, rd)) (hg : tr.get = some out) (hH : RelH cx Wr β H D w) (hc : RelC cx β cs c.toList) :
    ∃ y, (part e c off).run P w = .ok y w ∧ Post cx Wr β H D out y w := by
  unfold partSem at h
  split at h
  · rename_i ha
    split at h
    · rename_i sz hsz
      obtain ⟨r, hr, rfl⟩ := aggO_run h hg
      exact ⟨_, subB_part ha hsz, post_val hH (RelV.of1 ⟨_, rfl, subB_rel hr hc⟩)⟩
    · exact (fail_run h).elim
  · rename_i ha
    obtain ⟨r, v, hv, hr, rfl⟩ := cellO_run h hg
    obtain ⟨cv, h1, h2⟩ := getC_rel _ _ _ _ _ hv hr hc
    exact ⟨cv, getC_part ha h1, post_val hH h2⟩
  · exact (fail_run h).elim

theorem indexSem_run {t : TypeId} {x i : AV} {tr : Tr Out} {rd : List Nat} {out : Out} {cvx cvi : Value} (h : (indexSem P t x i).run H = some (tr, rd)) (hg : tr.get = some out) (hH : RelH cx Wr β H D w) (hx : RelV cx β x cvx) (hi : RelV cx β i cvi) :
    ∃ y, (Instr.index t cvx cvi).run P w = .ok y w ∧ Post cx Wr β H D out y w := by
  replace h := withIx_run (P := P) h hi
  obtain ⟨r, n, h, hix⟩ := h
  split at h
  · rename_i cs
    obtain ⟨l, rfl, hl⟩ := hx
    split at h
    · rename_i m e hu
      unfold ixArr at h
      split at h
      · rename_i ha
        split at h
        · rename_i sz hsz
          split at h
          · rename_i h1
            obtain rfl : sz = 1 := Nat.eq_of_beq_eq_true h1
            split at h
            · rename_i r' v hv
              obtain rfl := pure_run h
              obtain ⟨hr, hg⟩ := Tr.needs_get hg
              obtain rfl := oneT_get hg
              obtain ⟨hr1, hr2⟩ := all_app hr
              have hlt : n < m := by simpa using hr2 _ (List.mem_cons_self)
              obtain ⟨k, rfl, _⟩ := hix hr1 w
              obtain ⟨cv, h2, h3⟩ := getC_rel _ _ _ _ _ hv (fun b hb => hr2 b (List.mem_cons_of_mem _ hb)) hl
              refine ⟨cv, ?_, post_val hH h3⟩
              simp only [Instr.index, asIntOf, Sem.run_bind, Sem.run_pure, Result.andThen_ok, run_underlying hu]
              rw [if_pos (by omega)]
              simp only [Sem.run_bind, run_sizeOf' hsz, Result.andThen_ok, Nat.mul_one, Int.toNat_natCast]
              exact getC_part ha (by simpa using h2)
            · exact (fail_run h).elim
          · exact (fail_run h).elim
        · exact (fail_run h).elim
      · rename_i ha
        split at h
        · rename_i sz hsz
          split at h
          · rename_i cs' hs
            obtain rfl := pure_run h
            obtain ⟨hr, hg⟩ := Tr.needs_get hg
            obtain rfl := leaf_get hg
            obtain ⟨hr1, hr2⟩ := all_app hr
            have hlt : n < m := by simpa using hr2
            obtain ⟨k, rfl, _⟩ := hix hr1 w
            refine ⟨_, ?_, post_val hH (RelV.of1 ⟨_, rfl, subB_rel hs hl⟩)⟩
            simp only [Instr.index, asIntOf, Sem.run_bind, Sem.run_pure, Result.andThen_ok, run_underlying hu]
            rw [if_pos (by omega)]
            simp only [Sem.run_bind, run_sizeOf' hsz, Result.andThen_ok, Int.toNat_natCast]
            exact subB_part ha hsz
          · exact (fail_run h).elim
        · exact (fail_run h).elim
      · exact (fail_run h).elim
    · exact (fail_run h).elim
  · rename_i s
    obtain ⟨ba, rfl, rfl⟩ := hx
    split at h
    · rename_i hu
      obtain rfl := pure_run h
      obtain ⟨hr, hg⟩ := Tr.needs_get hg
      obtain rfl := oneT_get hg
      obtain ⟨hr1, hr2⟩ := all_app hr
      have hlt : n < ba.size := by
        have := hr2 _ (List.mem_singleton.2 rfl)
        simp only [List.length_map, Array.length_toList, decide_eq_true_eq] at this
        exact this
      obtain ⟨k, rfl, _⟩ := hix hr1 w
      have hget : ba[n]? = some ba[n] := by simp [hlt]
      refine ⟨.int .u8 ((ba[n].toNat : Nat) : Int), ?_, post_val hH (RelV.of1 (v := .s _) ⟨?_, ?_⟩)⟩
      · simp only [Instr.index, asIntOf, Sem.run_bind, Sem.run_pure, Result.andThen_ok, run_underlying hu]
        rw [if_pos (by omega)]
        simp only [Int.toNat_natCast, hget, Sem.run_pure]
      · congr 1
        rw [List.getD, List.getElem?_map]
        have : ba.data.toList[n]? = some ba[n] := by
          have h1 : n < ba.data.toList.length := by simpa using hlt
          rw [List.getElem?_eq_getElem h1]; rfl
        rw [this]; rfl
      · rw [List.getD, List.getElem?_map]
        cases ba.data.toList[n]? with
        | none => exact lim_pos _
        | some y => exact y.toNat_lt
    · exact (fail_run h).elim
  · exact (fail_run h).elim

theorem fieldAddrSem_run {t : TypeId} {x : AV} {f : Nat} {tr : Tr Out} {rd : List Nat} {out : Out} {cvx : Value} (h : (fieldAddrSem P t f x).run H = some (tr, rd)) (hg : tr.get = some out) (hH : RelH cx Wr β H D w) (hx : RelV cx β x cvx) :
    ∃ y, (Instr.fieldAt t cvx f).run P w = .ok y w ∧ Post cx Wr β H D out y w := by
  unfold fieldAddrSem at h
  split at h
  · rename_i b off
    split at h
    · rename_i fs hu
      split at h
      · rename_i o sz hp
        obtain rfl := pure_run h
        obtain rfl := oneT_get hg
        obtain ⟨q, hq, rfl⟩ := hx
        unfold placeS at hp
        split at hp
        · rename_i fd hfd
          split at hp
          · rename_i sz' hsz
            simp only [Option.some.injEq, Prod.mk.injEq] at hp
            obtain ⟨rfl, rfl⟩ := hp
            refine ⟨.pointer (some ⟨q.blk, q.base + off + fd.offset, none⟩), ?_, post_val hH (RelV.of1 ⟨q, hq, by rw [addOff_eq, Nat.add_assoc]⟩)⟩
            simp only [Instr.fieldAt, Sem.run_bind, run_underlying hu, Result.andThen_ok, hfd, Instr.sureAddr, Sem.run_pure, fieldPlace, run_sizeOf' hsz, addr_add]
            simp
          · cases hp
        · cases hp
      · exact (fail_run h).elim
    · exact (fail_run h).elim
  · exact (fail_run h).elim

theorem fieldSem_run {t : TypeId} {x : AV} {f : Nat} {tr : Tr Out} {rd : List Nat} {out : Out} {cvx : Value} (h : (fieldSem P t f x).run H = some (tr, rd)) (hg : tr.get = some out) (hH : RelH cx Wr β H D w) (hx : RelV cx β x cvx) :
    ∃ y, (Instr.field t cvx f).run P w = .ok y w ∧ Post cx Wr β H D out y w := by
  unfold fieldSem at h
  split at h
  · rename_i cs
    obtain ⟨l, rfl, hl⟩ := hx
    split at h
    · rename_i fs hu
      split at h
      · rename_i fd hfd
        obtain ⟨y, h1, h2⟩ := partSem_run (P := P) (c := l.toArray) h hg hH (by simpa using hl)
        refine ⟨y, ?_, h2⟩
        simp only [Instr.field, Sem.run_bind, run_underlying hu, Result.andThen_ok, hfd, asAgg, Sem.run_pure, h1]
      · exact (fail_run h).elim
    · exact (fail_run h).elim
  · exact (fail_run h).elim

theorem RelL1.get : ∀ {vs : List AV} {l : List Value} {i : Nat} {v : AV}, RelL1 cx β vs l → vs[i]? = some v → ∃ cv, l[i]? = some cv ∧ RelV1 cx β v cv
  | [], l, i, v, h, e => by simp at e
  | u :: us, l, 0, v, ⟨cv, l', e1, h1, h2⟩, e => by
    simp only [List.getElem?_cons_zero, Option.some.injEq] at e
    subst e
    exact ⟨cv, by rw [e1]; rfl, h1⟩
  | u :: us, l, i + 1, v, ⟨cv, l', e1, h1, h2⟩, e => by
    obtain ⟨cv', h3, h4⟩ := RelL1.get (i := i) h2 (by simpa using e)
    exact ⟨cv', by rw [e1]; simpa using h3, h4⟩

theorem extractSem_run {x : AV} {i : Nat} {tr : Tr Out} {rd : List Nat} {out : Out} {cvx : Value} (h : (extractSem i x).run H = some (tr, rd)) (hg : tr.get = some out) (hH : RelH cx Wr β H D w) (hx : RelV cx β x cvx) :
    ∃ y, (Instr.extract cvx i).run P w = .ok y w ∧ Post cx Wr β H D out y w := by
  unfold extractSem at h
  split at h
  · rename_i vs
    obtain ⟨l, rfl, hl⟩ := hx
    split at h
    · rename_i v hv
      obtain rfl := pure_run h
      obtain rfl := leaf_get hg
      obtain ⟨cv, h1, h2⟩ := hl.get hv
      refine ⟨cv, ?_, post_val hH (RelV.of1 h2)⟩
      simp [Instr.extract, h1]
    · exact (fail_run h).elim
  · exact (fail_run h).elim

theorem nilCheckSem_run {x : AV} {tr : Tr Out} {rd : List Nat} {out : Out} {cvx : Value} (h : (nilCheckSem x).run H = some (tr, rd)) (hg : tr.get = some out) (hH : RelH cx Wr β H D w) (hx : RelV cx β x cvx) :
    (∃ a, cvx = .pointer (some a)) ∧ Post cx Wr β H D out cvx w := by
  unfold nilCheckSem at h
  split at h
  · obtain rfl := pure_run h
    obtain rfl := oneT_get hg
    obtain ⟨q, hq, rfl⟩ := hx
    exact ⟨⟨_, rfl⟩, post_val hH (RelV.of1 ⟨q, hq, rfl⟩)⟩
  · exact (fail_run h).elim

end
end Go.Proofs.Ytgebgjhjegadpaa

namespace Go.Proofs.Ytgebgjhjegadpaa
open Go

section
variable {P : Program} {cx : Cx} {Wr : Nat → Prop} {β : Bm} {H : Nat → Option Blk} {D : Nat → Prop} {w : World}

/-! Slice expressions. -/
def RelO (cx : Cx) (β : Bm) : Option AV → Option Value → Prop
  | none, none => True
  | some v, some cv => RelV cx β v cv
  | _, _ => False

theorem bound_run {v : SV} {r : List Bool} {i y : Nat} {cv : Value} {code : BoundsCode} (h : asIx v = some (r, i)) (hr : ∀ b ∈ r, b = true) (hv : RelS cx β v cv) (hi : i ≤ y) (w : World) : (Instr.sliceBound cv y code).run P w = .ok i w := by
  obtain ⟨k, rfl, _⟩ := asIx_run (P := P) h hr hv w
  simp only [Instr.sliceBound, asIntOf, Sem.run_bind, Sem.run_pure, Result.andThen_ok]
  rw [if_pos (by omega)]
  simp

theorem bounds_run {isS : Bool} {n cap : Nat} {lo hi : Option AV} {clo chi : Option Value} {r : List Bool} {l h : Option Nat} (hb : bounds n lo hi = some (r, l, h)) (hr : ∀ b ∈ r, b = true) (hlo : RelO cx β lo clo) (hhi : RelO cx β hi chi) (hn : n ≤ cap) (w : World) :
    (Instr.sliceBounds isS n cap clo chi none).run P w = .ok (l.getD 0, h.getD n, cap) w ∧ l.getD 0 ≤ h.getD n ∧ h.getD n ≤ n := by
  unfold bounds at hb
  cases hi with
  | none =>
    cases chi with
    | some _ => exact hhi.elim
    | none =>
      cases lo with
      | none =>
        cases clo with
        | some _ => exact hlo.elim
        | none =>
          simp only [Option.some.injEq, Prod.mk.injEq] at hb
          obtain ⟨_, rfl, rfl⟩ := hb
          exact ⟨by simp [Instr.sliceBounds], by simp, by simp⟩
      | some lv =>
        cases clo with
        | none => exact hlo.elim
        | some cl =>
          cases lv with
          | s lv =>
            simp only at hb
            split at hb
            · rename_i r1 l1 h1
              simp only [Option.some.injEq, Prod.mk.injEq] at hb
              obtain ⟨rfl, rfl, rfl⟩ := hb
              obtain ⟨hr1, hr2⟩ := all_app hr
              have hle : l1 ≤ n := by simpa using hr2
              refine ⟨?_, by simpa using hle, by simp⟩
              simp only [Instr.sliceBounds, Sem.run_bind, Sem.run_pure, Result.andThen_ok, bound_run h1 hr1 hlo hle, Option.getD_some, Option.getD_none]
            · cases hb
          | _ => cases hb
  | some hv =>
    cases chi with
    | none => exact hhi.elim
    | some ch =>
      cases hv with
      | s hv =>
        simp only at hb
        split at hb
        · rename_i rh h1 hh1
          cases lo with
          | none =>
            cases clo with
            | some _ => exact hlo.elim
            | none =>
              simp only [Option.some.injEq, Prod.mk.injEq] at hb
              obtain ⟨rfl, rfl, rfl⟩ := hb
              obtain ⟨hr1, hr2⟩ := all_app hr
              have hle : h1 ≤ n := by simpa using hr2
              refine ⟨?_, by simp, by simpa using hle⟩
              simp only [Instr.sliceBounds, Sem.run_bind, Sem.run_pure, Result.andThen_ok, bound_run hh1 hr1 hhi (Nat.le_trans hle hn), Option.getD_some, Option.getD_none]
          | some lv =>
            cases clo with
            | none => exact hlo.elim
            | some cl =>
              cases lv with
              | s lv =>
                simp only at hb
                split at hb
                · rename_i r1 l1 hl1
                  simp only [Option.some.injEq, Prod.mk.injEq] at hb
                  obtain ⟨rfl, rfl, rfl⟩ := hb
                  obtain ⟨hra, hrd⟩ := all_app hr
                  obtain ⟨hrb, hrc⟩ := all_app hra
                  obtain ⟨hre, hrf⟩ := all_app hrb
                  have hle : h1 ≤ n := by simpa using hrf
                  have hll : l1 ≤ h1 := by simpa using hrd
                  refine ⟨?_, by simpa using hll, by simpa using hle⟩
                  simp only [Instr.sliceBounds, Sem.run_bind, Sem.run_pure, Result.andThen_ok, bound_run hh1 hre hhi (Nat.le_trans hle hn), bound_run hl1 hrc hlo hll, Option.getD_some]
                · cases hb
              | _ => cases hb
        · cases hb
      | _ => cases hb

theorem cutO_run {f : Option Nat → Option Nat → SV} {o : Option (List Bool × Option Nat × Option Nat)} {tr : Tr Out} {rd : List Nat} {out : Out} (h : (cutO f o).run H = some (tr, rd)) (hg : tr.get = some out) :
    ∃ r l h, o = some (r, l, h) ∧ (∀ b ∈ r, b = true) ∧ out = Out.val (.s (f l h)) := by
  unfold cutO at h
  split at h
  · obtain rfl := pure_run h
    obtain ⟨h1, h2⟩ := Tr.needs_get hg
    exact ⟨_, _, _, rfl, h1, oneT_get h2⟩
  · exact (fail_run h).elim

theorem lenOfCut_eq {n : Nat} {l h : Option Nat} : lenOfCut n l h = h.getD n - l.getD 0 := by
  cases l <;> cases h <;> rfl

/-- What a cut out of a row of variables says. -/
theorem cutAt_rel {m : LK} {q : Pl} {b off n cap sz x : Nat} {l h : Option Nat} (hq : β b = some q) (hx : cap ≠ 0 → x = q.base + off) (hcap : n ≤ cap) (hsz : off + cap * sz ≤ q.size) (hl : l.getD 0 ≤ h.getD n) (hh : h.getD n ≤ n) :
    RelS cx β (cutAt m b off n sz l h) (.slice (some (if cap = l.getD 0 then ⟨q.blk, x, none⟩ else ⟨q.blk, x + l.getD 0 * sz, none⟩)) (h.getD n - l.getD 0) (cap - l.getD 0)) := by
  refine .inr ⟨q, cap - l.getD 0, if cap = l.getD 0 then x else x + l.getD 0 * sz, hq, ?_, ?_, ?_, ?_⟩
  · rw [lenOfCut_eq]
    split <;> rfl
  · intro h0
    rw [if_neg (by omega), hx (by omega)]
    cases l with
    | none => simp
    | some l => simp [addOff_eq, mulSz_eq]; omega
  · rw [lenOfCut_eq]; omega
  · cases l with
    | none => simpa using hsz
    | some l =>
      simp only [addOff_eq, mulSz_eq, Option.getD_some] at *
      rw [Nat.sub_mul]
      have : l * sz ≤ cap * sz := Nat.mul_le_mul_right _ (by omega)
      omega

theorem RdI.cut2 {k : IntKind} {xs : List Nat} {b o : Nat} (h : RdI cx k xs b o) (l hi : Option Nat) : RdI cx k (dropN (takeN xs hi) l) b (o + l.getD 0) := by
  intro i x e
  have hh : xs[l.getD 0 + i]? = some x := by
    have e1 : (takeN xs hi)[l.getD 0 + i]? = some x := by
      cases l with
      | none => simpa [dropN] using e
      | some l => simpa [dropN] using e
    cases hi with
    | none => exact e1
    | some hi =>
      simp only [takeN, List.getElem?_take] at e1
      split at e1
      · exact e1
      · cases e1
  have := h _ x hh
  rwa [← Nat.add_assoc] at this

theorem getNN {xs : List (List Nat)} {l hi : Option Nat} {i : Nat} {x : List Nat} (e : (dropNN (takeNN xs hi) l)[i]? = some x) : xs[l.getD 0 + i]? = some x := by
  have e1 : (takeNN xs hi)[l.getD 0 + i]? = some x := by
    cases l with
    | none => simpa [dropNN] using e
    | some l => simpa [dropNN] using e
  cases hi with
  | none => exact e1
  | some hi =>
    simp only [takeNN, List.getElem?_take] at e1
    split at e1
    · exact e1
    · cases e1

theorem XC.cut_rel {c : XC} {b o : Nat} (l hi : Option Nat) (h : RdX cx c b o) : RdX cx (c.cut l hi) b (o + l.getD 0 * c.sz) := by
  cases c with
  | ints k xs => simp only [XC.sz, Nat.mul_one]; exact RdI.cut2 h l hi
  | arrs k n xss =>
    intro i xs e
    obtain ⟨h1, h2⟩ := h _ _ (getNN e)
    refine ⟨h1, ?_⟩
    simp only [XC.sz]
    rwa [Nat.add_mul, ← Nat.add_assoc] at h2
  | bss xss =>
    intro i xs e
    have := h _ _ (getNN e)
    simp only [XC.sz, Nat.mul_one]
    rwa [← Nat.add_assoc] at this

theorem XC.cut_len {c : XC} {l hi : Option Nat} (h1 : l.getD 0 ≤ hi.getD c.len) (h2 : hi.getD c.len ≤ c.len) : (c.cut l hi).len = hi.getD c.len - l.getD 0 := by
  cases c <;> cases l <;> cases hi <;> simp_all [XC.cut, XC.len, dropN, takeN, dropNN, takeNN]

theorem XC.cut_sz {c : XC} {l hi : Option Nat} : (c.cut l hi).sz = c.sz := by cases c <;> rfl

theorem run_slice_at {t e : TypeId} {sz len cap l h : Nat} {b x : Nat} {clo chi : Option Value} (hu : P.underlying t = some (.slice e)) (hsz : tySize P e = some sz)
    (hb : (Instr.sliceBounds true len cap clo chi none).run P w = .ok (l, h, cap) w) :
    (Instr.sliceAt t (.slice (some ⟨b, x, none⟩) len cap) clo chi none).run P w = .ok (.slice (some (if cap = l then ⟨b, x, none⟩ else ⟨b, x + l * sz, none⟩)) (h - l) (cap - l)) w := by
  simp only [Instr.sliceAt, Sem.run_bind, run_underlying hu, Result.andThen_ok, Instr.slice, hb, run_sizeOf' hsz, Sem.run_pure]
  split <;> simp [addr_add]

theorem run_slice_nil {t e : TypeId} {sz : Nat} {clo chi : Option Value} (hu : P.underlying t = some (.slice e)) (hsz : tySize P e = some sz)
    (hb : (Instr.sliceBounds true 0 0 clo chi none).run P w = .ok (0, 0, 0) w) :
    (Instr.sliceAt t (.slice none 0 0) clo chi none).run P w = .ok (.slice none 0 0) w := by
  simp only [Instr.sliceAt, Sem.run_bind, run_underlying hu, Result.andThen_ok, Instr.slice, hb, run_sizeOf' hsz, Sem.run_pure, if_true]

theorem sliceSl_run {t : TypeId} {sz len : Nat} {f : Option Nat → Option Nat → SV} {lo hi : Option AV} {tr : Tr Out} {rd : List Nat} {out : Out} (h : (sliceSl P t sz len f lo hi).run H = some (tr, rd)) (hg : tr.get = some out) :
    ∃ e r l h, P.underlying t = some (.slice e) ∧ tySize P e = some sz ∧ bounds len lo hi = some (r, l, h) ∧ (∀ b ∈ r, b = true) ∧ out = Out.val (.s (f l h)) := by
  unfold sliceSl at h
  split at h
  · rename_i e hu
    split at h
    · rename_i sz' hsz
      split at h
      · rename_i hss
        obtain rfl := Nat.eq_of_beq_eq_true hss
        obtain ⟨r, l, h1, h2, h3, h4⟩ := cutO_run h hg
        exact ⟨e, r, l, h1, hu, hsz, h2, h3, h4⟩
      · exact (fail_run h).elim
    · exact (fail_run h).elim
  · exact (fail_run h).elim

theorem extract_bytes (ba : ByteArray) (l h : Nat) : (ba.extract l h).data.toList = (ba.data.toList.take h).drop l := by
  simp [ByteArray.data_extract, List.extract_eq_take_drop, List.drop_take]

theorem str_cut (ba : ByteArray) (l h : Option Nat) : dropN (takeN (ba.data.toList.map (·.toNat)) h) l = (ba.extract (l.getD 0) (h.getD ba.size)).data.toList.map (·.toNat) := by
  rw [extract_bytes]
  have hs : ba.data.toList.take ba.size = ba.data.toList := List.take_of_length_le (by simp)
  cases l <;> cases h <;> simp [dropN, takeN, List.map_take, List.map_drop, hs]

theorem sliceSem_run {t : TypeId} {x : AV} {lo hi : Option AV} {clo chi : Option Value} {tr : Tr Out} {rd : List Nat} {out : Out} {cvx : Value} (h : (sliceSem P t lo hi x).run H = some (tr, rd)) (hg : tr.get = some out) (hH : RelH cx Wr β H D w) (hx : RelV cx β x cvx)
    (hlo : RelO cx β lo clo) (hhi : RelO cx β hi chi) : ∃ y, (Instr.sliceAt t cvx clo chi none).run P w = .ok y w ∧ Post cx Wr β H D out y w := by
  unfold sliceSem at h
  split at h
  · rename_i b off
    unfold slicePtr at h
    split at h
    · rename_i n e hu
      split at h
      · rename_i sz hsz
        obtain ⟨cs, l', hcs, hk, _⟩ := RM.run_look h
        split at hk
        · rename_i hble
          have hble := Nat.le_of_ble_eq_true hble
          obtain ⟨r, l, hh, hb, hr, rfl⟩ := cutO_run hk hg
          obtain ⟨q, hq, rfl⟩ := hx
          obtain ⟨c, T, fr, _, _, _, ll, hl1, hl2, _⟩ := hH.held _ _ _ hq hcs
          have hlen := hl1.length
          obtain ⟨h1, h2, h3⟩ := bounds_run (P := P) (isS := false) hb hr hlo hhi (Nat.le_refl n) w
          refine ⟨_, ?_, post_val hH (RelV.of1 (cutAt_rel (cx := cx) (m := arrK off (n * sz) (sizeB cs)) (x := q.base + off) hq (fun _ => rfl) (Nat.le_refl n) (by omega) h2 h3))⟩
          simp only [Instr.sliceAt, Sem.run_bind, run_underlying hu, Result.andThen_ok, Instr.sureAddr, Sem.run_pure, h1, run_sizeOf' hsz]
          split <;> simp [addr_add]
        · exact (fail_run hk).elim
      · exact (fail_run h).elim
    · exact (fail_run h).elim
  · rename_i m b off len sz
    obtain ⟨e, r, l, hh, hu, hsz, hb, hr, rfl⟩ := sliceSl_run h hg
    rcases hx with ⟨rfl, rfl⟩ | ⟨q, cap, x, hq, rfl, hxa, hlc, hsz2⟩
    · obtain ⟨h1, h2, h3⟩ := bounds_run (P := P) (isS := true) hb hr hlo hhi (Nat.le_refl 0) w
      have e1 : hh.getD 0 = 0 := by omega
      have e2 : l.getD 0 = 0 := by omega
      rw [e1, e2] at h1
      refine ⟨_, run_slice_nil hu hsz h1, post_val hH (RelV.of1 (v := .s _) (.inl ⟨?_, rfl⟩))⟩
      rw [lenOfCut_eq]; omega
    · obtain ⟨h1, h2, h3⟩ := bounds_run (P := P) (isS := true) hb hr hlo hhi hlc w
      exact ⟨_, run_slice_at hu hsz h1, post_val hH (RelV.of1 (cutAt_rel (cx := cx) (m := m) hq hxa hlc hsz2 h2 h3))⟩
  · rename_i c
    obtain ⟨e, r, l, hh, hu, hsz, hb, hr, rfl⟩ := sliceSl_run h hg
    rcases hx with ⟨h0, rfl⟩ | ⟨b, o, cap, rfl, hlc, hrd⟩
    · rw [h0] at hb
      obtain ⟨h1, h2, h3⟩ := bounds_run (P := P) (isS := true) hb hr hlo hhi (Nat.le_refl 0) w
      have e1 : hh.getD 0 = 0 := by omega
      have e2 : l.getD 0 = 0 := by omega
      rw [e1, e2] at h1
      refine ⟨_, run_slice_nil hu hsz h1, post_val hH (RelV.of1 (v := .s _) (.inl ⟨?_, rfl⟩))⟩
      rw [XC.cut_len (by rw [h0]; omega) (by rw [h0]; omega), h0]; omega
    · obtain ⟨h1, h2, h3⟩ := bounds_run (P := P) (isS := true) hb hr hlo hhi hlc w
      refine ⟨_, run_slice_at hu hsz h1, post_val hH (RelV.of1 (v := .s _) (.inr ⟨b, if cap = l.getD 0 then o else o + l.getD 0 * c.sz, cap - l.getD 0, ?_, ?_, ?_⟩))⟩
      · rw [XC.cut_len h2 h3]
        split <;> rfl
      · rw [XC.cut_len h2 h3]; omega
      · split
        · rename_i hc
          have hl0 : (c.cut l hh).len = 0 := by rw [XC.cut_len h2 h3]; omega
          cases hcc : c.cut l hh with
          | ints k xs =>
            rw [hcc] at hl0
            intro i x e
            simp only [XC.len, List.length_eq_zero_iff] at hl0
            subst hl0; simp at e
          | arrs k n xss =>
            rw [hcc] at hl0
            intro i x e
            simp only [XC.len, List.length_eq_zero_iff] at hl0
            subst hl0; simp at e
          | bss xss =>
            rw [hcc] at hl0
            intro i x e
            simp only [XC.len, List.length_eq_zero_iff] at hl0
            subst hl0; simp at e
        · exact XC.cut_rel l hh hrd
  · rename_i s
    split at h
    · rename_i hu
      obtain ⟨r, l, hh, hb, hr, rfl⟩ := cutO_run h hg
      obtain ⟨ba, rfl, rfl⟩ := hx
      have hs : (ba.data.toList.map (·.toNat)).length = ba.size := by simp
      rw [hs] at hb
      obtain ⟨h1, h2, h3⟩ := bounds_run (P := P) (isS := false) hb hr hlo hhi (Nat.le_refl _) w
      refine ⟨.string (ba.extract (l.getD 0) (hh.getD ba.size)), ?_, post_val hH (RelV.of1 (v := .s _) ⟨_, rfl, str_cut ba l hh⟩)⟩
      simp only [Instr.sliceAt, Sem.run_bind, run_underlying hu, Result.andThen_ok, Instr.slice, Option.isSome_none, Bool.false_eq_true, if_false, h1, Sem.run_pure]
    · exact (fail_run h).elim
  · exact (fail_run h).elim

theorem toArrSem_run {t : TypeId} {x : AV} {tr : Tr Out} {rd : List Nat} {out : Out} {cvx : Value} (h : (toArrSem P t x).run H = some (tr, rd)) (hg : tr.get = some out) (hH : RelH cx Wr β H D w) (hx : RelV cx β x cvx) :
    ∃ y, (Instr.arrayAt t cvx).run P w = .ok y w ∧ Post cx Wr β H D out y w := by
  unfold toArrSem at h
  split at h
  · rename_i m b off len sz
    split at h
    · rename_i n e hu
      obtain rfl := pure_run h
      obtain ⟨h0, hg⟩ := Tr.need_get hg
      obtain rfl := oneT_get hg
      have h0 := of_decide_eq_true h0
      rcases hx with ⟨h1, _⟩ | ⟨q, cap, x, hq, rfl, hxa, hlc, hsz2⟩
      · omega
      · obtain rfl := hxa (by omega)
        refine ⟨_, ?_, post_val hH (RelV.of1 (v := .s _) ⟨q, hq, rfl⟩)⟩
        simp only [Instr.arrayAt, Sem.run_bind, run_underlying hu, Result.andThen_ok]
        rw [if_neg (by omega)]
        rfl
    · exact (fail_run h).elim
  · rename_i k xs
    split at h
    · rename_i n e hu
      obtain rfl := pure_run h
      obtain ⟨h0, hg⟩ := Tr.need_get hg
      obtain rfl := oneT_get hg
      have h0 := of_decide_eq_true h0
      rcases hx with ⟨h1, _⟩ | ⟨b, o, cap, rfl, hlc, hrd⟩
      · simp only [XC.len] at h1; omega
      · refine ⟨.pointer (some ⟨b, o, none⟩), ?_, post_val hH (RelV.of1 (v := .s _) ⟨b, o, by simp, hrd⟩)⟩
        simp only [Instr.arrayAt, Sem.run_bind, run_underlying hu, Result.andThen_ok]
        rw [if_neg (show ¬ ((XC.ints k xs).len < n.succ) by simp only [XC.len]; omega)]; rfl
    · exact (fail_run h).elim
  · exact (fail_run h).elim

end
end Go.Proofs.Ytgebgjhjegadpaa

namespace Go.Proofs.Ytgebgjhjegadpaa
open Go

section
variable {P : Program} {cx : Cx} {Wr : Nat → Prop} {β : Bm} {H : Nat → Option Blk} {D : Nat → Prop} {w : World}

theorem RelC.flat {k : IntKind} : ∀ {cs : List Ch} {xs : List Nat} {l : List Value}, flatI k cs = some xs → RelC cx β cs l → l = xs.map (fun x : Nat => Value.int k x) ∧ ∀ x ∈ xs, x < lim k := by
  intro cs
  induction cs with
  | nil => intro xs l h hl; simp only [flatI, Option.some.injEq] at h; subst h; exact ⟨hl, by simp⟩
  | cons c cs ih =>
    intro xs l h hl
    unfold flatI at h
    split at h
    · rename_i heq; cases heq
    · rename_i k' n ys heq
      simp only [List.cons.injEq] at heq
      obtain ⟨rfl, rfl⟩ := heq
      split at h
      · rename_i hk
        obtain rfl : k = k' := of_decide_eq_true hk
        cases h
        obtain ⟨_, h2, l', rfl, rfl⟩ := hl
        exact ⟨by simp, h2⟩
      · cases h
    · rename_i k' n ys r _ heq
      simp only [List.cons.injEq] at heq
      obtain ⟨rfl, rfl⟩ := heq
      split at h
      · rename_i r' hk hr
        obtain rfl : k = k' := of_decide_eq_true hk
        cases h
        obtain ⟨_, h2, l', rfl, hl'⟩ := hl
        obtain ⟨rfl, h4⟩ := ih hr hl'
        refine ⟨by simp, fun x hx => ?_⟩
        rcases List.mem_append.1 hx with h | h
        · exact h2 x h
        · exact h4 x h
      · cases h
    · rename_i k' x r heq
      simp only [List.cons.injEq] at heq
      obtain ⟨rfl, rfl⟩ := heq
      split at h
      · rename_i r' hk hr
        obtain rfl : k = k' := of_decide_eq_true hk
        cases h
        obtain ⟨cv, l', rfl, ⟨rfl, hx⟩, hl'⟩ := hl
        obtain ⟨rfl, h4⟩ := ih hr hl'
        refine ⟨by simp, fun y hy => ?_⟩
        rcases List.mem_cons.1 hy with rfl | h
        · exact hx
        · exact h4 y h
      · cases h
    · cases h

/-- The world of now, as what a callee may read. -/
abbrev now (w : World) (X : Nat → Prop) : Cx := ⟨w, X⟩

theorem RelXI.of_cells {X : Nat → Prop} {k : IntKind} {xs : List Nat} {b o cap n : Nat} (hb : X b) (hn : n = xs.length) (hcap : n ≤ cap) (hx : ∀ x ∈ xs, x < lim k)
    (hc : ∀ (i : Nat) (v : Value), (xs.map (fun x : Nat => Value.int k x))[i]? = some v → w.cell? ⟨b, o + i, none⟩ = some v) : RelXI (now w X) k xs (.slice (some ⟨b, o, none⟩) n cap) := by
  subst hn
  exact .inr ⟨b, o, cap, rfl, hcap, fun i x e => ⟨hb, hc i _ (by simp [e]), hx x (List.mem_of_getElem? e)⟩⟩

theorem RdI.now {X : Nat → Prop} {k : IntKind} {xs : List Nat} {b o : Nat} (hH : RelH cx Wr β H D w) (hX : ∀ b, cx.X b → X b) (h : RdI cx k xs b o) : RdI (now w X) k xs b o := by
  intro i x e
  obtain ⟨h1, h2, h3⟩ := h i x e
  exact ⟨hX _ h1, by rw [← h2]; exact hH.cell h1, h3⟩

theorem RelXI.now {X : Nat → Prop} {k : IntKind} {xs : List Nat} {cv : Value} (hH : RelH cx Wr β H D w) (hX : ∀ b, cx.X b → X b) (h : RelXI cx k xs cv) : RelXI (now w X) k xs cv := by
  rcases h with h | ⟨b, o, cap, h1, h2, h3⟩
  · exact .inl h
  · exact .inr ⟨b, o, cap, h1, h2, h3.now hH hX⟩

theorem RelX.now {X : Nat → Prop} {c : XC} {cv : Value} (hH : RelH cx Wr β H D w) (hX : ∀ b, cx.X b → X b) (h : RelX cx c cv) : RelX (now w X) c cv := by
  rcases h with h | ⟨b, o, cap, h1, h2, h3⟩
  · exact .inl h
  · refine .inr ⟨b, o, cap, h1, h2, ?_⟩
    cases c with
    | ints k xs => exact RdI.now hH hX h3
    | arrs k n xss => exact fun i xs e => ⟨(h3 i xs e).1, (h3 i xs e).2.now hH hX⟩
    | bss xss =>
      intro i xs e
      obtain ⟨h4, cv', h5, h6⟩ := h3 i xs e
      exact ⟨hX _ h4, cv', by rw [← h5]; exact hH.cell h4, h6.now hH hX⟩

theorem relX_ints {k : IntKind} {xs : List Nat} {cv : Value} (h : RelX cx (.ints k xs) cv) : RelXI cx k xs cv := by
  rcases h with ⟨h1, h2⟩ | h
  · exact .inl ⟨List.length_eq_zero_iff.1 h1, h2⟩
  · exact .inr h

theorem RelXI.relX {k : IntKind} {xs : List Nat} {cv : Value} (h : RelXI cx k xs cv) : RelX cx (.ints k xs) cv := by
  rcases h with ⟨h1, h2⟩ | h
  · exact .inl ⟨by simp only [XC.len, h1, List.length_nil], h2⟩
  · exact .inr h

/-- A part of a row of variables, as a slice. -/
theorem row_rel {X : Nat → Prop} {k : IntKind} {m : LK} {b off len sz : Nat} {cs : List Ch} {xs : List Nat} {cv : Value} (hH : RelH cx Wr β H D w) (hX : ∀ p, β b = some p → X p.blk) (hv : RelS cx β (.sl m b off len sz) cv) (hcs : H b = some cs)
    (h : len = 0 → xs = []) (hl : ∀ l, RelC cx β cs l → (l.drop off).take len = xs.map (fun x : Nat => Value.int k x) ∧ (∀ x ∈ xs, x < lim k) ∧ xs.length = len) : RelXI (now w X) k xs cv := by
  rcases hv with ⟨h0, rfl⟩ | ⟨q, cap, x, hq, rfl, hxa, hlc, hsz⟩
  · exact .inl ⟨h h0, rfl⟩
  · obtain ⟨l, hl1, hcell⟩ := (hH.held _ _ _ hq hcs).cells
    obtain ⟨h1, h2, h3⟩ := hl l hl1
    by_cases h0 : cap = 0
    · have hx0 : xs = [] := h (by omega)
      subst hx0
      exact .inr ⟨q.blk, x, cap, by rw [show len = 0 by omega]; rfl, by simp, fun i x e => by simp at e⟩
    · obtain rfl := hxa h0
      refine .of_cells (hX q hq) h3.symm hlc h2 (fun i v e => ?_)
      rw [← h1] at e
      rw [Nat.add_assoc]
      exact hcell _ _ (drop_take_get e)

theorem row_flat {X : Nat → Prop} {k : IntKind} {m : LK} {b off len sz : Nat} {cs r : List Ch} {xs : List Nat} {cv : Value} (hH : RelH cx Wr β H D w) (hX : ∀ p, β b = some p → X p.blk) (hv : RelS cx β (.sl m b off len sz) cv) (hcs : H b = some cs)
    (hr : subB off len cs = some r) (hf : flatI k r = some xs) : RelXI (now w X) k xs cv := by
  refine row_rel hH hX hv hcs (fun h0 => ?_) (fun l hl => ?_)
  · subst h0
    have : r = [] := by unfold subB at hr; simpa using hr.symm
    subst this
    simp only [flatI, Option.some.injEq] at hf
    exact hf.symm
  · obtain ⟨h1, h2⟩ := subB_cells hr hl
    obtain ⟨h3, h4⟩ := RelC.flat hf h1
    refine ⟨h3, h4, ?_⟩
    have h5 := congrArg List.length h3
    simp only [h2, List.length_map] at h5
    exact h5.symm

theorem row_whole {X : Nat → Prop} {k : IntKind} {m : LK} {b off len n sz : Nat} {xs : List Nat} {cv : Value} (hH : RelH cx Wr β H D w) (hX : ∀ p, β b = some p → X p.blk) (hv : RelS cx β (.sl m b off len sz) cv) (hcs : H b = some [.ints k n xs])
    (h : (Nat.beq off 0 && Nat.beq len n) = true) : RelXI (now w X) k xs cv := by
  simp only [Bool.and_eq_true, Nat.beq_eq] at h
  obtain ⟨rfl, rfl⟩ := h
  have hwf := hH.wf _ _ hcs k len xs (List.mem_singleton.2 rfl)
  refine row_rel hH hX hv hcs (fun h0 => List.length_eq_zero_iff.1 (by omega)) (fun l hl => ?_)
  obtain ⟨h1, h2, l', rfl, rfl⟩ := hl
  exact ⟨by simp [h1, List.take_of_length_le], h2, h1⟩

theorem row_cut {X : Nat → Prop} {k : IntKind} {m : LK} {b off len n sz : Nat} {xs : List Nat} {cv : Value} (hH : RelH cx Wr β H D w) (hX : ∀ p, β b = some p → X p.blk) (hv : RelS cx β (.sl m b off len sz) cv) (hcs : H b = some [.ints k n xs])
    (h : off + len ≤ n) : RelXI (now w X) k ((xs.drop off).take len) cv := by
  refine row_rel hH hX hv hcs (fun h0 => by simp [h0]) (fun l hl => ?_)
  obtain ⟨h1, h2, l', rfl, rfl⟩ := hl
  exact ⟨by simp [List.map_drop, List.map_take], fun x hx => h2 x (List.mem_of_mem_drop (List.mem_of_mem_take hx)), by simp; omega⟩


theorem row_len {cx' : Cx} {k : IntKind} {m : LK} {b off len sz : Nat} {xs : List Nat} {cv : Value} (h : RelXI cx' k xs cv) (hv : RelS cx β (.sl m b off len sz) cv) : xs.length = len := by
  rcases h with ⟨rfl, rfl⟩ | ⟨b', o, cap, rfl, _, _⟩
  · rcases hv with ⟨rfl, _⟩ | ⟨q, cap, x, hq, e, _⟩
    · rfl
    · cases e
  · rcases hv with ⟨_, e⟩ | ⟨q, cap, x, hq, e, _⟩
    · cases e
    · cases e; rfl

theorem rowOf_rel {X : Nat → Prop} {k : IntKind} {m m' : LK} {b off len sz : Nat} {cs : List Ch} {r : List Bool} {xs : List Nat} {cv : Value} (hH : RelH cx Wr β H D w) (hX : ∀ p, β b = some p → X p.blk) (hv : RelS cx β (.sl m' b off len sz) cv) (hcs : H b = some cs)
    (h : rowOf k m off len cs = some (r, xs)) (hr : ∀ b ∈ r, b = true) : RelXI (now w X) k xs cv ∧ xs.length = len := by
  unfold rowOf at h
  split at h
  · rename_i k' n ys
    have hwf := hH.wf _ _ hcs k' n ys (List.mem_singleton.2 rfl)
    split at h
    · rename_i hk
      obtain rfl : k = k' := of_decide_eq_true hk
      have cut : off + len ≤ n → RelXI (now w X) k ((ys.drop off).take len) cv ∧ ((ys.drop off).take len).length = len := fun hle => ⟨row_cut hH hX hv hcs hle, by simp; omega⟩
      split at h <;> simp only [Option.some.injEq, Prod.mk.injEq] at h <;> obtain ⟨rfl, rfl⟩ := h <;> simp only [List.mem_cons, List.not_mem_nil, or_false, forall_eq_or_imp, forall_eq, decide_eq_true_eq] at hr
      · obtain ⟨rfl, rfl⟩ := hr
        have := cut (by omega)
        rwa [List.drop_zero, List.take_of_length_le (by omega)] at this
      · obtain ⟨rfl, hle⟩ := hr
        have := cut (by omega)
        rwa [List.drop_zero] at this
      · have := cut (by omega)
        rwa [List.take_of_length_le (by simp; omega)] at this
      · exact cut hr
    · cases h
  · split at h
    · rename_i r' hs
      split at h
      · rename_i ys hf
        simp only [Option.some.injEq, Prod.mk.injEq] at h
        obtain ⟨_, rfl⟩ := h
        have h1 := row_flat (k := k) hH hX hv hcs hs hf
        exact ⟨h1, row_len h1 hv⟩
      · cases h
    · cases h

theorem bytesOf_rel {X : Nat → Prop} {v : SV} {r : List Bool} {xs : List Nat} {rd : List Nat} {cv : Value} (hH : RelH cx Wr β H D w) (hXc : ∀ b, cx.X b → X b) (hv : RelS cx β v cv) (h : (bytesOf v).run H = some ((r, xs), rd)) (hr : ∀ b ∈ r, b = true)
    (hX : ∀ n p, n ∈ rd → β n = some p → X p.blk) : RelXI (now w X) .u8 xs cv := by
  unfold bytesOf at h
  split at h
  · rename_i ys
    have := pure_run h
    simp only [Prod.mk.injEq] at this
    obtain ⟨_, rfl⟩ := this
    exact (relX_ints hv).now hH hXc
  · have := pure_run h
    simp only [Prod.mk.injEq] at this
    obtain ⟨_, rfl⟩ := this
    exact .inl ⟨rfl, hv⟩
  · rename_i m b off len
    obtain ⟨cs, l, hcs, hk, rfl⟩ := RM.run_look h
    unfold RM.ofO at hk
    split at hk
    · rename_i a hrow
      obtain rfl := pure_run hk
      exact (rowOf_rel hH (fun p hp => hX b p (List.mem_cons_self) hp) hv hcs hrow hr).1
    · exact (fail_run hk).elim
  · exact (fail_run h).elim

theorem rowsI_rel {k : IntKind} {n : Nat} : ∀ {cs : List Ch} {xss : List (List Nat)} {l : List Value}, rowsI k n cs = some xss → RelC cx β cs l →
    ∀ i xs, xss[i]? = some xs → xs.length = n ∧ (∀ x ∈ xs, x < lim k) ∧ ∀ (j x : Nat), xs[j]? = some x → l[i * n + j]? = some (.int k x) := by
  intro cs
  induction cs with
  | nil => intro xss l h hl i xs e; simp only [rowsI, Option.some.injEq] at h; subst h; simp at e
  | cons c cs ih =>
    intro xss l h hl i xs e
    unfold rowsI at h
    split at h
    · rename_i heq; cases heq
    · rename_i k' m ys r heq
      simp only [List.cons.injEq] at heq
      obtain ⟨rfl, rfl⟩ := heq
      split at h
      · rename_i r' hk hm hr
        obtain rfl : k = k' := of_decide_eq_true hk
        obtain rfl : m = n := Nat.eq_of_beq_eq_true hm
        cases h
        obtain ⟨h1, h2, l', rfl, hl'⟩ := hl
        cases i with
        | zero =>
          simp only [List.getElem?_cons_zero, Option.some.injEq] at e
          subst e
          refine ⟨h1, h2, fun j x hx => ?_⟩
          rw [Nat.zero_mul, Nat.zero_add, List.getElem?_append_left (by simp; have := (List.getElem?_eq_some_iff.1 hx).1; omega)]
          simp [hx]
        | succ i =>
          obtain ⟨h3, h4, h5⟩ := ih hr hl' i xs (by simpa using e)
          refine ⟨h3, h4, fun j x hx => ?_⟩
          rw [List.getElem?_append_right (by simp; rw [Nat.add_mul]; omega)]
          rw [show (i + 1) * m + j - (ys.map fun x : Nat => Value.int k x).length = i * m + j by simp [h1]; rw [Nat.add_mul]; omega]
          exact h5 j x hx
      · cases h
    · cases h

theorem rowsI_size {k : IntKind} {n : Nat} : ∀ {cs : List Ch} {xss : List (List Nat)}, rowsI k n cs = some xss → sizeB cs = xss.length * n := by
  intro cs
  induction cs with
  | nil => intro xss h; simp only [rowsI, Option.some.injEq] at h; subst h; simp [sizeB]
  | cons c cs ih =>
    intro xss h
    unfold rowsI at h
    split at h
    · rename_i heq; cases heq
    · rename_i k' m ys r heq
      simp only [List.cons.injEq] at heq
      obtain ⟨rfl, rfl⟩ := heq
      split at h
      · rename_i r' hk hm hr
        obtain rfl : m = n := Nat.eq_of_beq_eq_true hm
        cases h
        simp only [sizeB, Ch.size, ih hr, List.length_cons, Nat.add_mul]
        omega
      · cases h
    · cases h

theorem bytesAll_rel {X : Nat → Prop} (hH : RelH cx Wr β H D w) (hXc : ∀ b, cx.X b → X b) : ∀ {cs : List Ch} {r : List Bool} {xss : List (List Nat)} {rd : List Nat} {l : List Value}, (bytesAll cs).run H = some ((r, xss), rd) → (∀ b ∈ r, b = true) →
    (∀ n p, n ∈ rd → β n = some p → X p.blk) → RelC cx β cs l → l.length = xss.length ∧ ∀ (i : Nat) (xs : List Nat), xss[i]? = some xs → ∃ cv : Value, l[i]? = some cv ∧ RelXI (now w X) .u8 xs cv := by
  intro cs
  induction cs with
  | nil =>
    intro r xss rd l h hr hX hl
    have := pure_run h
    simp only [Prod.mk.injEq] at this
    obtain ⟨_, rfl⟩ := this
    rw [hl]
    exact ⟨rfl, fun i xs e => by simp at e⟩
  | cons c cs ih =>
    intro r xss rd l h hr hX hl
    cases c with
    | ints k n xs => exact (fail_run h).elim
    | one v =>
      obtain ⟨cv, l', rfl, hv, hl'⟩ := hl
      obtain ⟨x, l1, l2, h1, h2, rfl⟩ := RM.run_bind h
      obtain ⟨y, l3, l4, h3, h4, rfl⟩ := RM.run_bind h2
      have := pure_run h4
      simp only [Prod.mk.injEq] at this
      obtain ⟨rfl, rfl⟩ := this
      obtain ⟨hr1, hr2⟩ := all_app hr
      have a1 := bytesOf_rel hH hXc hv h1 hr1 (fun n p hn => hX n p (by simp [hn]))
      obtain ⟨a2, a3⟩ := ih h3 hr2 (fun n p hn => hX n p (by simp [hn])) hl'
      refine ⟨by simp [a2], fun i xs e => ?_⟩
      cases i with
      | zero =>
        simp only [List.getElem?_cons_zero, Option.some.injEq] at e
        subst e
        exact ⟨cv, rfl, a1⟩
      | succ i => simpa using a3 i xs (by simpa using e)

theorem readSl_rel {X : Nat → Prop} {ek : EK} {v : SV} {r : List Bool} {c : XC} {rd : List Nat} {cv : Value} (hH : RelH cx Wr β H D w) (hXc : ∀ b, cx.X b → X b) (hv : RelS cx β v cv) (h : (readSl ek v).run H = some ((r, c), rd)) (hr : ∀ b ∈ r, b = true)
    (hX : ∀ n p, n ∈ rd → β n = some p → X p.blk) : RelX (now w X) c cv := by
  unfold readSl at h
  split at h
  · rename_i c0
    have hc : RelX cx c0 cv := hv
    split at h
    · split at h
      · have := pure_run h
        simp only [Prod.mk.injEq] at this
        obtain ⟨_, rfl⟩ := this
        exact hc.now hH hXc
      · exact (fail_run h).elim
    · have := pure_run h
      simp only [Prod.mk.injEq] at this
      obtain ⟨_, rfl⟩ := this
      exact hc.now hH hXc
    · have := pure_run h
      simp only [Prod.mk.injEq] at this
      obtain ⟨_, rfl⟩ := this
      exact hc.now hH hXc
    · exact (fail_run h).elim
  · split at h <;>
    · have := pure_run h
      simp only [Prod.mk.injEq] at this
      obtain ⟨_, rfl⟩ := this
      exact .inl ⟨rfl, hv⟩
  · rename_i m b off len sz
    split at h
    · rename_i k
      obtain ⟨cs, l, hcs, hk, rfl⟩ := RM.run_look h
      unfold xcI at hk
      split at hk
      · rename_i r' xs hrow
        have := pure_run hk
        simp only [Prod.mk.injEq] at this
        obtain ⟨rfl, rfl⟩ := this
        exact (rowOf_rel hH (fun p hp => hX b p (List.mem_cons_self) hp) hv hcs hrow hr).1.relX
      · exact (fail_run hk).elim
    · rename_i k n
      split at h
      · rename_i hn
        simp only [Bool.and_eq_true, Nat.beq_eq] at hn
        obtain ⟨rfl, hn1⟩ := hn
        have hn1 := Nat.le_of_ble_eq_true hn1
        obtain ⟨cs, l, hcs, hk, rfl⟩ := RM.run_look h
        split at hk
        · rename_i r' hs
          unfold xcA at hk
          split at hk
          · rename_i xss hrows
            have := pure_run hk
            simp only [Prod.mk.injEq] at this
            obtain ⟨rfl, rfl⟩ := this
            have hsize := rowsI_size hrows
            rcases hv with ⟨rfl, rfl⟩ | ⟨q, cap, y, hq, rfl, hxa, hlc, hsz⟩
            · have : r' = [] := by unfold subB at hs; simpa using hs.symm
              subst this
              simp only [rowsI, Option.some.injEq] at hrows
              subst hrows
              exact .inl ⟨rfl, rfl⟩
            · obtain ⟨l, hl1, hcell⟩ := (hH.held _ _ _ hq hcs).cells
              obtain ⟨h3, h4⟩ := subB_cells hs hl1
              have h5 := rowsI_rel hrows h3
              have h6 := h3.length
              have hlen : xss.length = len := by
                rw [h4, hsize] at h6
                exact (Nat.eq_of_mul_eq_mul_right (by omega) h6).symm
              refine .inr ⟨q.blk, y, cap, by simp only [XC.len]; rw [hlen], by simp only [XC.len]; omega, fun i xs e => ?_⟩
              obtain ⟨h7, h8, h9⟩ := h5 i xs e
              have hi := (List.getElem?_eq_some_iff.1 e).1
              obtain rfl := hxa (by omega)
              refine ⟨h7, fun j x hx => ⟨hX b q (by simp) hq, ?_, h8 x (List.mem_of_getElem? hx)⟩⟩
              have := hcell _ _ (drop_take_get (h9 j x hx))
              rw [← this]
              congr 2
              omega
          · exact (fail_run hk).elim
        · exact (fail_run hk).elim
      · exact (fail_run h).elim
    · obtain ⟨cs, l, hcs, hk, rfl⟩ := RM.run_look h
      split at hk
      · rename_i r' hs
        obtain ⟨x, l1, l2, h1, h2, rfl⟩ := RM.run_bind hk
        have := pure_run h2
        simp only [Prod.mk.injEq] at this
        obtain ⟨rfl, rfl⟩ := this
        rcases hv with ⟨rfl, rfl⟩ | ⟨q, cap, y, hq, rfl, hxa, hlc, hsz⟩
        · have : r' = [] := by unfold subB at hs; simpa using hs.symm
          subst this
          have := pure_run h1
          subst this
          exact .inl ⟨rfl, rfl⟩
        · obtain ⟨l, hl1, hcell⟩ := (hH.held _ _ _ hq hcs).cells
          obtain ⟨h3, h4⟩ := subB_cells hs hl1
          obtain ⟨h5, h6⟩ := bytesAll_rel hH hXc h1 hr (fun n p hn => hX n p (by simp [hn])) h3
          refine .inr ⟨q.blk, y, cap, ?_, ?_, fun i xs e => ?_⟩
          · simp only [XC.len]; rw [← h5, h4]
          · simp only [XC.len]; omega
          · obtain ⟨cv, h7, h8⟩ := h6 i xs e
            have hi := (List.getElem?_eq_some_iff.1 e).1
            obtain rfl := hxa (by omega)
            refine ⟨hX b q (by simp) hq, cv, ?_, h8⟩
            rw [Nat.add_assoc]
            exact hcell _ _ (drop_take_get h7)
      · exact (fail_run hk).elim
  · exact (fail_run h).elim

end
end Go.Proofs.Ytgebgjhjegadpaa

namespace Go.Proofs.Ytgebgjhjegadpaa
open Go

section
variable {P : Program} {cx : Cx} {Wr : Nat → Prop} {β : Bm} {H : Nat → Option Blk} {D : Nat → Prop} {w : World}

theorem capK_le (k : IntKind) : capK k ≤ 140737488355328 := by cases k <;> decide

theorem elemInt_spec {t : TypeId} {k : IntKind} (h : elemInt P t = some k) : ∃ e i, P.underlying t = some (.slice e) ∧ P.underlying e = some (.int k) ∧ P.info? e = some i ∧ i.size = 1 ∧ i.bytes ≤ 8 ∧ i.zero = some (.int k 0) ∧ capK k * i.bytes ≤ 140737488355328 := by
  unfold elemInt at h
  split at h
  · rename_i e hu
    split at h
    · rename_i k0 hk
      split at h
      · rename_i i hi
        split at h
        · rename_i k' hb hz
          split at h
          · rename_i hkk
            obtain rfl : k0 = k' := of_decide_eq_true hkk
            cases h
            simp only [Bool.and_eq_true, Nat.beq_eq] at hb
            exact ⟨e, i, hu, hk, hi, hb.1, Nat.le_of_ble_eq_true hb.2.1, hz, Nat.le_of_ble_eq_true hb.2.2⟩
          · cases h
        · cases h
      · cases h
    · cases h
  · cases h

/-- A name that stands for no block. -/
theorem RelH.unreal (h : RelH cx Wr β H D w) {n : Nat} (hn : ¬ D n) {cs : Blk} (hw : WfB cs) : RelH cx Wr β (fun m => if m = n then some cs else H m) (fun m => D m ∨ m = n) w := by
  have hnone := h.none_of_fresh hn
  refine ⟨h.size, h.frame, h.xok, fun m p e => ⟨.inl (h.dom m p e).1, (h.dom m p e).2⟩, fun m p c e hc => ?_, fun m c hc => ?_, fun m c hc => ?_, fun m m' p q e1 e2 h1 h2 => ?_, h.os, h.tape, h.output⟩
  · by_cases hm : m = n
    · subst hm; rw [hnone] at e; cases e
    · simp only [hm, if_false] at hc; exact h.held m p c e hc
  · split at hc
    · cases hc; exact hw
    · exact h.wf m c hc
  · split at hc
    · rename_i e; exact .inr e
    · exact .inl (h.hd m c hc)
  · have a : ∀ x, (∃ p, β x = some p) → x ≠ n := fun x ⟨p, hp⟩ e => by subst e; rw [hnone] at hp; cases hp
    have hm := a m ⟨p, e1⟩
    have hm' := a m' ⟨q, e2⟩
    simp only [hm, hm', if_false] at h1 h2
    exact h.inj m m' p q e1 e2 h1 h2

/-- A live name's block passes to a new name. -/
theorem RelH.pass (h : RelH cx Wr β H D w) {b n : Nat} (hn : ¬ D n) {q : Pl} (hq : β b = some q) (hb : (H b).isSome = true) {w' : World} (hsz : w'.heap.size = w.heap.size) (hoth : ∀ k, k ≠ q.blk → w'.heap[k]? = w.heap[k]?)
    (hos : w'.os = w.os) (ht : w'.tape = w.tape) (ho : w'.output = w.output) {p : Pl} (hp : p.blk = q.blk) {cs : Blk} (hheld : Held cx (β.put n p) w' p cs) :
    RelH cx Wr (β.put n p) (fun m => if m = n then some cs else if m = b then none else H m) (fun m => D m ∨ m = n) w' := by
  have hnone := h.none_of_fresh hn
  have hext : Ext β (β.put n p) := Bm.ext_put hnone
  have hd := h.dom b q hq
  have hne : b ≠ n := fun e => by subst e; exact hn hd.1
  have other : ∀ m p', m ≠ b → β m = some p' → (H m).isSome = true → p'.blk ≠ q.blk := fun m p' hm hp' hm' e => hm (h.inj m b p' q hp' hq hm' hb e)
  refine ⟨by rw [hsz]; exact h.size, ?_, h.xok, ?_, ?_, ?_, ?_, ?_, hos.trans h.os, ht.trans h.tape, ho.trans h.output⟩
  · intro k hk hW
    rw [hoth k (fun e => by subst e; rcases hd.2.2 with h1 | h1; · omega
                            · exact hW h1)]
    exact h.frame k hk hW
  · intro m p' e
    unfold Bm.put at e
    split at e
    · rename_i hm; cases e; refine ⟨.inr hm, ?_, ?_⟩
      · rw [hsz, hp]; exact hd.2.1
      · rw [hp]; exact hd.2.2
    · obtain ⟨h1, h2, h3⟩ := h.dom m p' e
      exact ⟨.inl h1, by rw [hsz]; exact h2, h3⟩
  · intro m p' c e hc
    unfold Bm.put at e
    by_cases hm : m = n
    · simp only [hm, if_true, Option.some.injEq] at e hc
      subst e; subst hc; exact hheld
    · simp only [hm, if_false] at e hc
      by_cases hmb : m = b
      · simp [hmb] at hc
      · simp only [hmb, if_false] at hc
        have hne' := other m p' hmb e (by rw [hc]; rfl)
        obtain ⟨c1, T, fr, h1, r⟩ := (h.held m p' c e hc).ext hext
        exact ⟨c1, T, fr, by rw [hoth _ hne']; exact h1, r⟩
  · intro m c hc
    split at hc
    · cases hc
      obtain ⟨_, _, _, _, _, _, l, hl, _⟩ := hheld
      exact hl.wf
    · split at hc
      · cases hc
      · exact h.wf m c hc
  · intro m c hc
    split at hc
    · rename_i e; exact .inr e
    · split at hc
      · cases hc
      · exact .inl (h.hd m c hc)
  · intro m m' p1 p2 e1 e2 h1 h2 hpq
    unfold Bm.put at e1 e2
    by_cases hm : m = n
    · by_cases hm' : m' = n
      · rw [hm, hm']
      · simp only [hm, if_true, Option.some.injEq] at e1
        simp only [hm', if_false] at e2 h2
        by_cases hmb : m' = b
        · simp [hmb] at h2
        · simp only [hmb, if_false] at h2
          exact absurd (by rw [← hpq, ← e1, hp]) (other m' p2 hmb e2 h2)
    · by_cases hm' : m' = n
      · simp only [hm', if_true, Option.some.injEq] at e2
        simp only [hm, if_false] at e1 h1
        by_cases hmb : m = b
        · simp [hmb] at h1
        · simp only [hmb, if_false] at h1
          exact absurd (by rw [hpq, ← e2, hp]) (other m p1 hmb e1 h1)
      · simp only [hm, hm', if_false] at e1 e2 h1 h2
        by_cases hmb : m = b
        · simp [hmb] at h1
        · by_cases hmb' : m' = b
          · simp [hmb'] at h2
          · simp only [hmb, hmb', if_false] at h1 h2
            exact h.inj m m' p1 p2 e1 e2 h1 h2 hpq

theorem happ_cat {n b : Nat} {v : AV} {cs : Blk} : happ ⟨v, [(b, none)], [(n, cs)]⟩ H = fun m => if m = n then some cs else if m = b then none else H m := by
  funext m
  simp only [happ, lkF, wrF]
  by_cases hm : m = n
  · subst hm; simp
  · have : Nat.beq n m = false := by
      cases hb : Nat.beq n m with
      | false => rfl
      | true => exact absurd (Nat.eq_of_beq_eq_true hb).symm hm
    simp [this, hm]

theorem dapp_cat {n : Nat} {v : AV} {cs : Blk} {wr : List (Nat × Option Blk)} : dapp ⟨v, wr, [(n, cs)]⟩ D = fun m => D m ∨ m = n := by
  funext m
  simp only [dapp, lkF]
  by_cases hm : m = n
  · subst hm; simp
  · have : Nat.beq n m = false := by
      cases hb : Nat.beq n m with
      | false => rfl
      | true => exact absurd (Nat.eq_of_beq_eq_true hb).symm hm
    simp [this, hm]

/-- Sources of append and copy. -/
theorem catSrc_run {k : IntKind} {v : SV} {r : List Bool} {c : XC} {rd : List Nat} {cv : Value} (hH : RelH cx Wr β H D w) (hv : RelS cx β v cv) (h : (catSrc k v).run H = some ((r, c), rd)) (hr : ∀ b ∈ r, b = true) {ys : List Nat} (hc : c = .ints k ys) :
    (Builtin.lenOf cv).run P w = .ok ys.length w ∧ (∀ n, n ≤ ys.length → (Builtin.firstCells 1 n cv).run P w = .ok ((ys.take n).map (fun x : Nat => Value.int k x)).toArray w) ∧ ∀ x ∈ ys, x < lim k := by
  subst hc
  unfold catSrc at h
  split at h
  · rename_i s
    split at h
    · have := pure_run h
      simp only [Prod.mk.injEq, XC.ints.injEq] at this
      obtain ⟨_, _, rfl⟩ := this
      obtain ⟨ba, rfl, rfl⟩ := hv
      refine ⟨by simp [Builtin.lenOf], fun n hn => ?_, fun x hx => ?_⟩
      · simp only [Builtin.firstCells, Sem.run_pure]
        congr 1
        apply Array.ext'
        rw [← List.map_take]
        simp [List.map_map]
        rfl
      · obtain ⟨y, _, rfl⟩ := List.mem_map.1 hx
        exact y.toNat_lt
    · exact (fail_run h).elim
  · have hx := relX_ints (readSl_rel (X := fun _ => True) hH (fun _ _ => trivial) hv h hr (fun _ _ _ _ => trivial))
    rcases hx with ⟨rfl, rfl⟩ | ⟨b, o, cap, rfl, hlc, hrd⟩
    · refine ⟨rfl, fun n hn => ?_, by simp⟩
      have : n = 0 := by simpa using hn
      subst this
      simp [Builtin.firstCells]
    · refine ⟨rfl, fun n hn => ?_, hrd.lim⟩
      simp only [Builtin.firstCells, Nat.mul_one]
      refine run_cells (fun i v e => ?_) (by simp; omega)
      rw [List.getElem?_map, Option.map_eq_some_iff] at e
      obtain ⟨x, hx, rfl⟩ := e
      rw [List.getElem?_take] at hx
      split at hx
      · exact (hrd i x hx).2.1
      · cases hx

end
end Go.Proofs.Ytgebgjhjegadpaa

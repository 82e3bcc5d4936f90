/-
  An abstract machine for Go code without shared memory of its own: values with names for the blocks that a call makes, lists of numbers for arrays, and an evaluator that the kernel can run. Definitions.
-/
import Derived.Orders
import Derived.KernelRfl
namespace Go.Proofs.Ytgebgjhjegadpaa
open Go

def lim : IntKind → Nat
  | .u8 => 256 | .u16 => 65536 | .u32 => 4294967296 | .u64 => 18446744073709551616
  | .i8 => 128 | .i16 => 32768 | .i32 => 2147483648 | .i64 => 9223372036854775808

inductive XC where
  | ints (k : IntKind) (xs : List Nat)
  | arrs (k : IntKind) (n : Nat) (xss : List (List Nat))
  | bss (xss : List (List Nat))

def XC.len : XC → Nat
  | .ints _ xs => xs.length
  | .arrs _ _ xss => xss.length
  | .bss xss => xss.length

def XC.sz : XC → Nat
  | .ints _ _ => 1
  | .arrs _ n _ => n
  | .bss _ => 1

/-- How a slice of a row was cut: for the way in which its content is told. -/
inductive LK where
  | whole | pre | suf | mid

inductive SV where
  | bool (b : Bool)
  | nat (k : IntKind) (n : Nat)
  | int (z : Int)
  | str (s : List Nat)
  | ptr (b off : Nat)
  | sl (m : LK) (b off len sz : Nat)
  | nil
  | nilp
  | xsl (c : XC)
  | xptr (c : XC) (i : Nat)
  | fn (f : Nat) (first cap : List (Nat × Nat))

inductive Ch where
  | ints (k : IntKind) (n : Nat) (xs : List Nat)
  | one (v : SV)

inductive AV where
  | any
  | s (v : SV)
  | agg (cs : List Ch)
  | tup (vs : List AV)

abbrev Blk := List Ch

/-! Trees of outcomes: what must hold, and ways that part. -/
inductive Tr (α : Type) where
  | leaf (a : α)
  | need (c : Bool) (t : Tr α)
  | br (c : Bool) (x y : Tr α)
  | fail

def Tr.get {α : Type} : Tr α → Option α
  | .leaf a => some a
  | .need c t => cond c t.get none
  | .br c x y => cond c x.get y.get
  | .fail => none

def Tr.cps {α β : Type} (K : α → Option β) : Tr α → Option β
  | .leaf a => K a
  | .need c t => cond c (t.cps K) none
  | .br c x y => cond c (x.cps K) (y.cps K)
  | .fail => none

def Tr.needs {α : Type} : List Bool → Tr α → Tr α
  | [], t => t
  | c :: cs, t => .need c (Tr.needs cs t)

/-! Programs that look at blocks. -/
inductive RM (α : Type) where
  | pure (a : α)
  | fail
  | look (n : Nat) (k : Blk → RM α)

def RM.run {α : Type} (h : Nat → Option Blk) : RM α → Option (α × List Nat)
  | .pure a => some (a, [])
  | .fail => none
  | .look n k => match h n with
    | some b => match (k b).run h with
      | some (a, l) => some (a, n :: l)
      | none => none
    | none => none

def RM.bind {α β : Type} : RM α → (α → RM β) → RM β
  | .pure a, f => f a
  | .fail, _ => .fail
  | .look n k, f => .look n fun b => (k b).bind f

/-- The names looked at, too. -/
def RM.tr {α : Type} : RM α → RM (α × List Nat)
  | .pure a => .pure (a, [])
  | .fail => .fail
  | .look n k => .look n fun b => (k b).tr.bind fun (r : α × List Nat) => .pure (r.1, n :: r.2)

def RM.ofO {α : Type} : Option α → RM α
  | some a => .pure a
  | none => .fail

structure Out where
  v : AV
  wr : List (Nat × Option Blk)
  nw : List (Nat × Blk)

def Out.val (v : AV) : Out := ⟨v, [], []⟩

/-! Chunks. -/
def Ch.size : Ch → Nat
  | .ints _ n _ => n
  | .one _ => 1

def sizeB : List Ch → Nat
  | [] => 0
  | c :: cs => c.size + sizeB cs

/-- The part of 'ints' from 'off' on, of length 'm'. -/
def cutI (k : IntKind) (n : Nat) (xs : List Nat) (off m : Nat) : Ch :=
  match Nat.beq off 0 && Nat.beq m n with
  | true => .ints k n xs
  | false => .ints k m ((xs.drop off).take m)

def subB : Nat → Nat → List Ch → Option (List Ch)
  | off, len, cs => match Nat.beq len 0 with
    | true => some []
    | false => match cs with
      | [] => none
      | c :: cs => match Nat.ble c.size off with
        | true => subB (off - c.size) len cs
        | false => match c with
          | .one v => match subB 0 (len - 1) cs with
            | some r => some (.one v :: r)
            | none => none
          | .ints k n xs => match Nat.ble len (n - off) with
            | true => some [cutI k n xs off len]
            | false => match subB 0 (len - (n - off)) cs with
              | some r => some (cutI k n xs off (n - off) :: r)
              | none => none

/-- Replace the cells from 'off' on by 'new'. -/
def putB0 (off : Nat) (new : List Ch) (cs : List Ch) : Option (List Ch) :=
  match Nat.ble (off + sizeB new) (sizeB cs) with
  | true => match subB 0 off cs, subB (off + sizeB new) (sizeB cs - (off + sizeB new)) cs with
    | some a, some b => some (a ++ new ++ b)
    | _, _ => none
  | false => none

/-- The same; a number among numbers stays among them. -/
def putB (off : Nat) (new : List Ch) (cs : List Ch) : Option (List Ch) :=
  match new, cs with
  | [.one (.nat k x)], [.ints k' n xs] => match decide (k = k') && Nat.blt off n with
    | true => some [.ints k' n (xs.set off x)]
    | false => putB0 off new cs
  | new, cs => putB0 off new cs

def addOff : Nat → Nat → Nat
  | 0, x => x
  | o + 1, x => o + 1 + x

def dropZ : Nat → List Nat → List Nat
  | 0, xs => xs
  | o + 1, xs => xs.drop (o + 1)

def mulSz (i : Nat) : Nat → Nat
  | 1 => i
  | n => i * n

/-- One cell. -/
def getC : List Ch → Nat → Option (List Bool × SV)
  | [], _ => none
  | .one v :: cs, off => match off with
    | 0 => some ([], v)
    | o + 1 => getC cs o
  | .ints k n xs :: cs, off => match cs with
    | [] => some ([decide (off < n)], .nat k (xs.getD off 0))
    | c :: cs => match Nat.ble n off with
      | true => getC (c :: cs) (off - n)
      | false => some ([], .nat k (xs.getD off 0))

def setI (k : IntKind) (n : Nat) (xs : List Nat) (off : Nat) (cs : List Ch) (r : List Bool) : SV → Option (List Bool × List Ch)
  | .nat k' x => match decide (k' = k) with
    | true => some (r, .ints k n (xs.set off x) :: cs)
    | false => none
  | _ => none

def consO (c : Ch) : Option (List Bool × List Ch) → Option (List Bool × List Ch)
  | some (r, cs) => some (r, c :: cs)
  | none => none

def setC (v : SV) : List Ch → Nat → Option (List Bool × List Ch)
  | [], _ => none
  | .one w :: cs, off => match off with
    | 0 => some ([], .one v :: cs)
    | o + 1 => consO (.one w) (setC v cs o)
  | .ints k n xs :: cs, off => match cs with
    | [] => setI k n xs off [] [decide (off < n)] v
    | c :: cs => match Nat.ble n off with
      | true => consO (.ints k n xs) (setC v (c :: cs) (off - n))
      | false => setI k n xs off (c :: cs) [] v

/-! Constants and zeros. -/
def litSV : Value → Option SV
  | .bool b => some (.bool b)
  | .int k (.ofNat n) => match Nat.blt n (lim k) with
    | true => some (.nat k n)
    | false => none
  | .int .i64 (.negSucc n) => match Nat.blt n 9223372036854775808 with
    | true => some (.int (.negSucc n))
    | false => none
  | .string s => some (.str (s.data.toList.map (·.toNat)))
  | .slice none 0 0 => some .nil
  | .pointer none => some .nilp
  | _ => none

def litAV (v : Value) : AV := match litSV v with
  | some s => .s s
  | none => .any

/-- Numbers in front of a list of chunks: into the first chunk if that has the same kind. -/
def consI (k : IntKind) (x : Nat) : List Ch → List Ch
  | .ints k' n xs :: r => match decide (k = k') with
    | true => .ints k (n + 1) (x :: xs) :: r
    | false => .ints k 1 [x] :: .ints k' n xs :: r
  | r => .ints k 1 [x] :: r

def packV : List Value → Option (List Ch)
  | [] => some []
  | v :: vs => match litSV v, packV vs with
    | some (.nat k x), some r => some (consI k x r)
    | some s, some r => some (.one s :: r)
    | _, _ => none

/-- A lone number stands as one cell. -/
def thin : List Ch → List Ch
  | [] => []
  | .ints k 1 [x] :: r => .one (.nat k x) :: thin r
  | c :: r => c :: thin r

def tySize (P : Program) (t : TypeId) : Option Nat := match P.info? t with
  | some i => some i.size
  | none => none

def zeroB (P : Program) (t : TypeId) : Option (List Ch) :=
  match P.info? t with
  | some i => match i.zero with
    | some z => match packV z.cells.toList with
      | some r => some (thin r)
      | none => none
    | none => none
  | none => none

def isAggT (P : Program) (t : TypeId) : Option Bool := match P.underlying t with
  | some (.struct _) => some true
  | some (.array _ _) => some true
  | some _ => some false
  | none => none

def AV.cells : AV → Option (List Ch)
  | .s v => some [.one v]
  | .agg cs => some cs
  | _ => none

/-! Names. -/
def SV.refs : SV → List Nat
  | .ptr b _ => [b]
  | .sl _ b _ _ _ => [b]
  | .fn _ f c => f.map (·.1) ++ c.map (·.1)
  | _ => []

def Ch.refs : Ch → List Nat
  | .ints _ _ _ => []
  | .one v => v.refs

def refsB : List Ch → List Nat
  | [] => []
  | c :: cs => c.refs ++ refsB cs

mutual
def AV.refs : AV → List Nat
  | .s v => v.refs
  | .agg cs => refsB cs
  | .tup vs => refsL vs
  | .any => []
def refsL : List AV → List Nat
  | [] => []
  | v :: vs => v.refs ++ refsL vs
end

def idxN : List Nat → Nat → Option Nat
  | [], _ => none
  | n :: ns, b => match Nat.beq n b with
    | true => some 0
    | false => match idxN ns b with
      | some i => some (i + 1)
      | none => none

def renP (f : Nat → Option Nat) : List (Nat × Nat) → Option (List (Nat × Nat))
  | [] => some []
  | p :: ps => match f p.1, renP f ps with
    | some b, some r => some ((b, p.2) :: r)
    | _, _ => none

def SV.ren (f : Nat → Option Nat) : SV → Option SV
  | .ptr b o => match f b with
    | some b' => some (.ptr b' o)
    | none => none
  | .sl m b o l z => match f b with
    | some b' => some (.sl m b' o l z)
    | none => none
  | .fn g a c => match renP f a, renP f c with
    | some a', some c' => some (.fn g a' c')
    | _, _ => none
  | v => some v

def Ch.ren (f : Nat → Option Nat) : Ch → Option Ch
  | .ints k n xs => some (.ints k n xs)
  | .one v => match v.ren f with
    | some v' => some (.one v')
    | none => none

def renB (f : Nat → Option Nat) : List Ch → Option (List Ch)
  | [] => some []
  | c :: cs => match c.ren f, renB f cs with
    | some c', some r => some (c' :: r)
    | _, _ => none

mutual
def AV.ren (f : Nat → Option Nat) : AV → Option AV
  | .s v => match v.ren f with
    | some v' => some (.s v')
    | none => none
  | .agg cs => match renB f cs with
    | some r => some (.agg r)
    | none => none
  | .tup vs => match renL f vs with
    | some r => some (.tup r)
    | none => none
  | .any => some .any
def renL (f : Nat → Option Nat) : List AV → Option (List AV)
  | [] => some []
  | v :: vs => match v.ren f, renL f vs with
    | some v', some r => some (v' :: r)
    | _, _ => none
end

def renBs (f : Nat → Option Nat) : List Blk → Option (List Blk)
  | [] => some []
  | b :: bs => match renB f b, renBs f bs with
    | some b', some r => some (b' :: r)
    | _, _ => none

def insN (ns : List Nat) (n : Nat) : List Nat := match idxN ns n with
  | some _ => ns
  | none => ns ++ [n]

def insL : List Nat → List Nat → List Nat
  | ns, [] => ns
  | ns, m :: ms => insL (insN ns m) ms

/-- The blocks behind the names 'ns' from the i-th on; the names that they lead to are put behind. -/
def closeN : Nat → Nat → List Nat → RM (List Nat × List Blk)
  | 0, _, _ => .fail
  | f + 1, i, ns => match ns[i]? with
    | none => .pure (ns, [])
    | some n => .look n fun b => (closeN f (i + 1) (insL ns (refsB b))).bind fun (r : List Nat × List Blk) => .pure (r.1, b :: r.2)

/-- Values with their blocks, named 0, 1, ..: the names that they had, the values, the blocks. -/
def canon (ns0 : List Nat) (vs : List AV) : RM (List Nat × List AV × List Blk) :=
  (closeN 50 0 (insL ns0 (refsL vs))).bind fun (r : List Nat × List Blk) =>
    match renL (idxN r.1) vs, renBs (idxN r.1) r.2 with
    | some vs', some bs' => .pure (r.1, vs', bs')
    | _, _ => .fail

def nthN (ns : List Nat) (i : Nat) : Option Nat := ns[i]?

def freshN (nx : Nat) : Nat → List Nat
  | 0 => []
  | n + 1 => nx :: freshN (nx + 1) n

/-! What calls do. -/
structure FSem where
  ro : Bool
  run : List AV → List Blk → Option (Tr (AV × List (Option Blk)))

structure Env where
  P : Program
  fs : List (Nat × FSem)
  xs : List (Nat × (List AV → Option (Tr AV)))

def lkF {α : Type} : List (Nat × α) → Nat → Option α
  | [], _ => none
  | (k, v) :: r, t => match Nat.beq k t with
    | true => some v
    | false => lkF r t

/-- All chunks are numbers of one kind. -/
def flatI (k : IntKind) : List Ch → Option (List Nat)
  | [] => some []
  | [.ints k' _ xs] => match decide (k = k') with
    | true => some xs
    | false => none
  | .ints k' _ xs :: cs => match decide (k = k'), flatI k cs with
    | true, some r => some (xs ++ r)
    | _, _ => none
  | .one (.nat k' x) :: cs => match decide (k = k'), flatI k cs with
    | true, some r => some (x :: r)
    | _, _ => none
  | _ => none

/-- Rows of n numbers each. -/
def rowsI (k : IntKind) (n : Nat) : List Ch → Option (List (List Nat))
  | [] => some []
  | .ints k' m xs :: cs => match decide (k = k'), Nat.beq m n, rowsI k n cs with
    | true, true, some r => some (xs :: r)
    | _, _, _ => none
  | _ => none

/-- The numbers of a part of a row. -/
def rowOf (k : IntKind) (m : LK) (off len : Nat) (cs : List Ch) : Option (List Bool × List Nat) :=
  match cs with
  | [.ints k' n xs] => match decide (k = k') with
    | true => match m with
      | .whole => some ([decide (off = 0), decide (len = n)], xs)
      | .pre => some ([decide (off = 0), decide (len ≤ n)], xs.take len)
      | .suf => some ([decide (off + len = n)], xs.drop off)
      | .mid => some ([decide (off + len ≤ n)], (xs.drop off).take len)
    | false => none
  | cs => match subB off len cs with
    | some r => match flatI k r with
      | some xs => some ([], xs)
      | none => none
    | none => none

/-- The bytes of a slice. -/
def bytesOf : SV → RM (List Bool × List Nat)
  | .xsl (.ints .u8 xs) => .pure ([], xs)
  | .nil => .pure ([], [])
  | .sl m b off len 1 => .look b fun cs => .ofO (rowOf .u8 m off len cs)
  | _ => .fail

def bytesAll : List Ch → RM (List Bool × List (List Nat))
  | [] => .pure ([], [])
  | .one v :: cs => (bytesOf v).bind fun (x : List Bool × List Nat) => (bytesAll cs).bind fun (r : List Bool × List (List Nat)) => .pure (x.1 ++ r.1, x.2 :: r.2)
  | _ => .fail

/-- How the elements of a slice type are read. -/
inductive EK where
  | ints (k : IntKind)
  | arrs (k : IntKind) (n : Nat)
  | bss

def flatKind (P : Program) (e : TypeId) : Option (IntKind × Nat) :=
  match zeroB P e with
  | some [.ints k n _] => some (k, n)
  | _ => none

def elemK (P : Program) (t : TypeId) : Option EK :=
  match P.underlying t with
  | some (.slice e) => match P.underlying e with
    | some (.int k) => some (.ints k)
    | some (.slice _) => some .bss
    | _ => match flatKind P e with
      | some (k, n) => some (.arrs k n)
      | none => none
  | _ => none

def xcI (k : IntKind) : Option (List Bool × List Nat) → RM (List Bool × XC)
  | some (r, xs) => .pure (r, .ints k xs)
  | none => .fail

def xcA (k : IntKind) (n : Nat) : Option (List (List Nat)) → RM (List Bool × XC)
  | some xss => .pure ([], .arrs k n xss)
  | none => .fail

def xcB (x : List Bool × List (List Nat)) : RM (List Bool × XC) := .pure (x.1, .bss x.2)

def readSl (ek : EK) : SV → RM (List Bool × XC)
  | .xsl c => match ek, c with
    | .ints k, .ints k' xs => match decide (k = k') with
      | true => .pure ([], .ints k' xs)
      | false => .fail
    | .arrs _ _, .arrs k n xss => .pure ([], .arrs k n xss)
    | .bss, .bss xss => .pure ([], .bss xss)
    | _, _ => .fail
  | .nil => match ek with
    | .ints k => .pure ([], .ints k [])
    | .arrs k n => .pure ([], .arrs k n [])
    | .bss => .pure ([], .bss [])
  | .sl m b off len sz => match ek with
    | .ints k => .look b fun cs => xcI k (rowOf k m off len cs)
    | .arrs k n => match Nat.beq n sz && Nat.ble 1 n with
      | true => .look b fun cs => match subB off (len * sz) cs with
        | some r => xcA k n (rowsI k n r)
        | none => .fail
      | false => .fail
    | .bss => .look b fun cs => match subB off len cs with
      | some r => (bytesAll r).bind xcB
      | none => .fail
  | _ => .fail

def roOne (P : Program) (t : TypeId) : AV → RM (List Bool × AV)
  | .s v => match elemK P t with
    | some ek => (readSl ek v).bind fun (c : List Bool × XC) => .pure (c.1, .s (.xsl c.2))
    | none => .pure ([], .s v)
  | v => .pure ([], v)

/-- Arguments that are slices are handed over as what they read as. -/
def roArgs (P : Program) : List TypeId → List AV → RM (List Bool × List AV)
  | _, [] => .pure ([], [])
  | [], _ :: _ => .fail
  | t :: ts, v :: vs => (roOne P t v).bind fun (c : List Bool × AV) => (roArgs P ts vs).bind fun (r : List Bool × List AV) => .pure (c.1 ++ r.1, c.2 :: r.2)

def ptrsAV : List (Nat × Nat) → List AV
  | [] => []
  | p :: ps => .s (.ptr p.1 p.2) :: ptrsAV ps

def avPtrs : List AV → Option (List (Nat × Nat))
  | [] => some []
  | .s (.ptr b o) :: vs => match avPtrs vs with
    | some r => some ((b, o) :: r)
    | none => none
  | _ => none

def Tr.map {α β : Type} (f : α → Option β) : Tr α → Tr β
  | .leaf a => match f a with
    | some b => .leaf b
    | none => .fail
  | .need c t => .need c (t.map f)
  | .br c x y => .br c (x.map f) (y.map f)
  | .fail => .fail

def backW (ns : List Nat) (bs : List (Option Blk)) : List (Nat × Option Blk) := ns.zip bs

def SV.noX : SV → Bool
  | .xsl _ => false
  | .xptr _ _ => false
  | _ => true

def noXB : List Ch → Bool
  | [] => true
  | .ints _ _ _ :: cs => noXB cs
  | .one v :: cs => v.noX && noXB cs

mutual
def AV.noX : AV → Bool
  | .s v => v.noX
  | .agg cs => noXB cs
  | .tup vs => noXL vs
  | .any => true
def noXL : List AV → Bool
  | [] => true
  | v :: vs => v.noX && noXL vs
end

def noXBs : List (Option Blk) → Bool
  | [] => true
  | some b :: bs => noXB b && noXBs bs
  | none :: bs => noXBs bs

def renOs (f : Nat → Option Nat) : List (Option Blk) → Option (List (Option Blk))
  | [] => some []
  | some b :: bs => match renB f b, renOs f bs with
    | some b', some r => some (some b' :: r)
    | _, _ => none
  | none :: bs => match renOs f bs with
    | some r => some (none :: r)
    | none => none

/-- Names with what is behind them, all there. -/
def liveL : List Nat → List (Option Blk) → Option (List (Nat × Blk))
  | [], [] => some []
  | n :: ns, some b :: bs => match liveL ns bs with
    | some r => some ((n, b) :: r)
    | none => none
  | _, _ => none

def disjN (ns : List Nat) : List Nat → Bool
  | [] => true
  | n :: r => match idxN ns n with
    | some _ => false
    | none => disjN ns r

/-- What a call leaves, in the caller's names. -/
def callOut (ro : Bool) (ns : List Nat) (nx : Nat) (r : AV × List (Option Blk)) : Option Out :=
  match Nat.ble ns.length r.2.length && (!ro || (r.1.noX && noXBs r.2)) with
  | true => match r.1.ren (nthN (ns ++ freshN nx (r.2.length - ns.length))), renOs (nthN (ns ++ freshN nx (r.2.length - ns.length))) r.2 with
    | some v, some bs => match liveL (freshN nx (r.2.length - ns.length)) (bs.drop ns.length) with
      | some nw => some ⟨v, backW ns (bs.take ns.length), nw⟩
      | none => none
    | _, _ => none
  | false => none

def callK (F : FSem) (nx : Nat) (conds : List Bool) (ron : List Nat) (c : List Nat × List AV × List Blk) : RM (Tr Out) :=
  match disjN c.1 ron with
  | true => match F.run c.2.1 c.2.2 with
    | some t => .pure (Tr.needs conds (t.map (callOut F.ro c.1 nx)))
    | none => .fail
  | false => .fail

/-- A call of function f. -/
def callSem (E : Env) (f : Nat) (ts : List TypeId) (nx : Nat) (args : List AV) : RM (Tr Out) :=
  match lkF E.fs f with
  | some F => match F.ro with
    | true => (RM.tr (roArgs E.P ts args)).bind fun (a : (List Bool × List AV) × List Nat) => (canon [] a.1.2).bind (callK F nx a.1.1 a.2)
    | false => (canon [] args).bind (callK F nx [] [])
  | none => match lkF E.xs f with
    | some F => match F args with
      | some t => .pure (t.map fun v => match refsL [v] with
        | [] => some (Out.val v)
        | _ => none)
      | none => .fail
    | none => .fail

/-! Numbers. -/
def isU : IntKind → Bool
  | .u8 | .u16 | .u32 | .u64 => true
  | _ => false

def cmpN (op : BinOp) (a b : Nat) : Option SV := match op with
  | .eql => some (.bool (decide (a = b)))
  | .neq => some (.bool (!decide (a = b)))
  | .lss => some (.bool (decide (a < b)))
  | .leq => some (.bool (decide (a ≤ b)))
  | .gtr => some (.bool (decide (b < a)))
  | .geq => some (.bool (decide (b ≤ a)))
  | _ => none

def cmpZ (op : BinOp) (a b : Int) : Option SV := match op with
  | .eql => some (.bool (decide (a = b)))
  | .neq => some (.bool (!decide (a = b)))
  | .lss => some (.bool (decide (a < b)))
  | .leq => some (.bool (decide (a ≤ b)))
  | .gtr => some (.bool (decide (b < a)))
  | .geq => some (.bool (decide (b ≤ a)))
  | _ => none

def binU (op : BinOp) (k : IntKind) (a b : Nat) : Option (Tr SV) := match op with
  | .add => some (.leaf (.nat k ((a + b) % lim k)))
  | .sub => some (.leaf (.nat k ((a + lim k - b) % lim k)))
  | .mul => some (.leaf (.nat k (a * b % lim k)))
  | .quo => some (.need (decide (0 < b)) (.leaf (.nat k (a / b))))
  | .rem => some (.need (decide (0 < b)) (.leaf (.nat k (a % b))))
  | .and => some (.leaf (.nat k (a &&& b)))
  | .or => some (.leaf (.nat k (a ||| b)))
  | .xor => some (.leaf (.nat k (a ^^^ b)))
  | op => match cmpN op a b with
    | some v => some (.leaf v)
    | none => none

/-- 'a - b' where both are counted down. -/
def subS : Nat → Nat → SV
  | a, 0 => .nat .i64 a
  | 0, b + 1 => .int (.negSucc b)
  | a + 1, b + 1 => subS a b

inductive SubMode where
  | nat | down | int

def binI (m : SubMode) (op : BinOp) (a b : Nat) : Option (Tr SV) := match op with
  | .add => some (.need (decide (a + b < 9223372036854775808)) (.leaf (.nat .i64 (a + b))))
  | .sub => match m with
    | .nat => some (.need (decide (b ≤ a)) (.leaf (.nat .i64 (a - b))))
    | .down => some (.leaf (subS a b))
    | .int => some (.leaf (.int ((a : Int) - (b : Int))))
  | .mul => some (.need (decide (a * b < 9223372036854775808)) (.leaf (.nat .i64 (a * b))))
  | .quo => some (.need (decide (0 < b)) (.leaf (.nat .i64 (a / b))))
  | .rem => some (.need (decide (0 < b)) (.leaf (.nat .i64 (a % b))))
  | .and => some (.leaf (.nat .i64 (a &&& b)))
  | .or => some (.leaf (.nat .i64 (a ||| b)))
  | .xor => some (.leaf (.nat .i64 (a ^^^ b)))
  | op => match cmpN op a b with
    | some v => some (.leaf v)
    | none => none

def inI (z : Int) : Bool := decide (-9223372036854775808 ≤ z) && decide (z < 9223372036854775808)

def binZ (op : BinOp) (a b : Int) : Option (Tr SV) := match op with
  | .add => some (.need (inI (a + b)) (.leaf (.int (a + b))))
  | .sub => some (.need (inI (a - b)) (.leaf (.int (a - b))))
  | .mul => some (.need (inI (a * b)) (.leaf (.int (a * b))))
  | .quo => some (.need (decide (0 < b)) (.leaf (.int (a.tdiv b))))
  | .rem => some (.need (decide (0 < b)) (.leaf (.int (a.tmod b))))
  | op => match cmpZ op a b with
    | some v => some (.leaf v)
    | none => none

def shN (op : BinOp) (k : IntKind) (a s : Nat) : Option (Tr SV) := match op with
  | .shl => match isU k with
    | true => some (.leaf (.nat k (a * 2 ^ s % lim k)))
    | false => match k with
      | .i64 => some (.need (decide (s < 64) && decide (a * 2 ^ s < 9223372036854775808)) (.leaf (.nat .i64 (a * 2 ^ s))))
      | _ => none
  | .shr => match isU k with
    | true => some (.leaf (.nat k (a / 2 ^ s)))
    | false => match k with
      | .i64 => some (.leaf (.nat .i64 (a / 2 ^ s)))
      | _ => none
  | _ => none

def isSh : BinOp → Bool
  | .shl | .shr => true
  | _ => false

def binSem (m : SubMode) (op : BinOp) : SV → SV → Option (Tr SV)
  | .nat k a, .nat k' b => match isSh op with
    | true => shN op k a b
    | false => match decide (k = k') with
      | true => match isU k with
        | true => binU op k a b
        | false => match k with
          | .i64 => binI m op a b
          | _ => none
      | false => none
  | .nat k a, .int z => match isSh op with
    | true => match shN op k a z.toNat with
      | some t => some (.need (decide (0 ≤ z)) t)
      | none => none
    | false => match k with
      | .i64 => binZ op a z
      | _ => none
  | .int z, .nat k b => match isSh op with
    | true => none
    | false => match k with
      | .i64 => binZ op z b
      | _ => none
  | .int y, .int z => binZ op y z
  | .str a, .str b => match op with
    | .add => some (.need (decide (a.length + b.length < 9223372036854775808)) (.leaf (.str (a ++ b))))
    | .eql => some (.leaf (.bool (decide (a = b))))
    | .neq => some (.leaf (.bool (!decide (a = b))))
    | _ => none
  | _, _ => none

def convI (dst : IntKind) : SV → Option (Tr SV)
  | .nat k n => match Nat.ble (lim k) (lim dst) with
    | true => some (.leaf (.nat dst n))
    | false => match isU dst with
      | true => some (.leaf (.nat dst (n % lim dst)))
      | false => some (.need (decide (n < lim dst)) (.leaf (.nat dst n)))
  | .int z => match isU dst with
    | true => some (.leaf (.nat dst (z % (lim dst : Int)).toNat))
    | false => match dst with
      | .i64 => some (.leaf (.int z))
      | _ => none
  | _ => none

/-- An index. -/
def asIx : SV → Option (List Bool × Nat)
  | .nat _ n => some ([], n)
  | .int z => some ([decide (0 ≤ z)], z.toNat)
  | _ => none

def takeN (xs : List Nat) : Option Nat → List Nat
  | none => xs
  | some h => xs.take h

def dropN (xs : List Nat) : Option Nat → List Nat
  | none => xs
  | some l => xs.drop l

def takeNN (xs : List (List Nat)) : Option Nat → List (List Nat)
  | none => xs
  | some h => xs.take h

def dropNN (xs : List (List Nat)) : Option Nat → List (List Nat)
  | none => xs
  | some l => xs.drop l

def XC.cut (lo hi : Option Nat) : XC → XC
  | .ints k xs => .ints k (dropN (takeN xs hi) lo)
  | .arrs k n xss => .arrs k n (dropNN (takeNN xss hi) lo)
  | .bss xss => .bss (dropNN (takeNN xss hi) lo)

/-- The bounds of a slice expression over something of length n: what must hold, low, high. -/
def bounds (n : Nat) (lo hi : Option AV) : Option (List Bool × Option Nat × Option Nat) :=
  match hi with
  | none => match lo with
    | none => some ([], none, none)
    | some (.s l) => match asIx l with
      | some (r, l) => some (r ++ [decide (l ≤ n)], some l, none)
      | none => none
    | _ => none
  | some (.s h) => match asIx h with
    | some (rh, h) => match lo with
      | none => some (rh ++ [decide (h ≤ n)], none, some h)
      | some (.s l) => match asIx l with
        | some (r, l) => some (rh ++ [decide (h ≤ n)] ++ r ++ [decide (l ≤ h)], some l, some h)
        | none => none
      | _ => none
    | none => none
  | _ => none

def lenOfCut (n : Nat) : Option Nat → Option Nat → Nat
  | none, none => n
  | some l, none => n - l
  | none, some h => h
  | some l, some h => h - l

def LK.cut : LK → Option Nat → Option Nat → LK
  | m, none, none => m
  | .whole, some _, none => .suf
  | .suf, some _, none => .suf
  | .whole, none, some _ => .pre
  | .pre, none, some _ => .pre
  | _, _, _ => .mid

def cutAt (m : LK) (b off n sz : Nat) (lo hi : Option Nat) : SV :=
  .sl (m.cut lo hi) b (match lo with
    | none => off
    | some l => addOff off (mulSz l sz)) (lenOfCut n lo hi) sz

def oneT (v : SV) : Tr Out := .leaf (Out.val (.s v))

def svT (t : Tr SV) : Tr Out := t.map fun v => some (Out.val (.s v))

def fillB (f : Nat → Option (Nat × Nat)) : List (Nat × AV) → List Ch → Option (List Ch)
  | [], cs => some cs
  | (i, v) :: r, cs => match f i, v.cells with
    | some (off, sz), some new => match Nat.beq (sizeB new) sz with
      | true => match putB off new cs with
        | some cs' => fillB f r cs'
        | none => none
      | false => none
    | _, _ => none

/-- Cells that are numbers of one kind, each. -/
def onesI (k : IntKind) : List (Nat × AV) → Nat → Option (List Nat)
  | [], _ => some []
  | p :: r, j => match p.2 with
    | .s (.nat k' x) => match decide (k = k') && Nat.beq p.1 j with
      | true => match onesI k r (j + 1) with
        | some xs => some (x :: xs)
        | none => none
      | false => none
    | _ => none

def repB (cs : List Ch) : Nat → List Ch
  | 0 => []
  | n + 1 => cs ++ repB cs n

def RM.needs (r : List Bool) (m : RM (Tr Out)) : RM (Tr Out) := m.bind fun t => .pure (Tr.needs r t)

/-! The operations, each with the values of its operands. -/
def pickSem : AV → AV → AV → RM (Tr Out)
  | .s (.bool t), .s (.bool x), .s (.bool y) => .pure (oneT (.bool (cond t x y)))
  | .s (.bool t), va, vb => match t with
    | true => .pure (.leaf (Out.val va))
    | false => .pure (.leaf (Out.val vb))
  | _, _, _ => .fail

def newSem (nx : Nat) : Option (List Ch) → RM (Tr Out)
  | some z => .pure (.leaf ⟨.s (.ptr nx 0), [], [(nx, z)]⟩)
  | none => .fail

def placeS (P : Program) (fs : Array Field) (i : Nat) : Option (Nat × Nat) := match fs[i]? with
  | some f => match tySize P f.type with
    | some sz => some (f.offset, sz)
    | none => none
  | none => none

def aggO : Option (List Ch) → RM (Tr Out)
  | some cs => .pure (.leaf (Out.val (.agg cs)))
  | none => .fail

def buildSem (P : Program) (t : TypeId) (ps : List (Nat × AV)) : RM (Tr Out) :=
  match zeroB P t with
  | some z => match P.underlying t with
    | some (.struct fs) => match fs.toList.all fun f => (tySize P f.type).isSome with
      | true => aggO (fillB (placeS P fs) ps z)
      | false => .fail
    | some (.array _ e) => match tySize P e with
      | some sz => aggO (fillB (fun i => some (i * sz, sz)) ps z)
      | none => .fail
    | _ => .fail
  | none => .fail

def rowO (nx n sz : Nat) : Option (List Ch) → RM (Tr Out)
  | some cs => .pure (.leaf ⟨.s (.sl .whole nx 0 n sz), [], [(nx, cs)]⟩)
  | none => .fail

def onesO (k : IntKind) (n : Nat) : Option (List Nat) → Option (List Ch)
  | some xs => some [.ints k n xs]
  | none => none

def elemInt (P : Program) (t : TypeId) : Option IntKind := match P.underlying t with
  | some (.slice e) => match P.underlying e with
    | some (.int k) => match P.info? e with
      | some i => match Nat.beq i.size 1 && Nat.ble i.bytes 8, i.zero with
        | true, some (.int k' (.ofNat 0)) => match decide (k = k') with
          | true => some k
          | false => none
        | _, _ => none
      | none => none
    | _ => none
  | _ => none

def buildSliceSem (P : Program) (nx : Nat) (t : TypeId) (n : Nat) (ps : List (Nat × AV)) : RM (Tr Out) :=
  match P.underlying t with
  | some (.slice e) => match Nat.ble 65536 n with
    | true => .fail
    | false => match Nat.beq ps.length n with
      | true => match elemInt P t with
        | some k => rowO nx n 1 (onesO k n (onesI k ps 0))
        | none => match zeroB P e with
          | some z => match tySize P e with
            | some sz => match Nat.ble sz 256 with
              | true => rowO nx n sz (match Nat.beq (sizeB z) sz && Nat.ble 1 sz with
                | true => fillB (fun i => some (i * sz, sz)) ps (repB z n)
                | false => none)
              | false => .fail
            | none => .fail
          | none => .fail
      | false => .fail
  | _ => .fail

def cellO : Option (List Bool × SV) → RM (Tr Out)
  | some (r, v) => .pure (Tr.needs r (oneT v))
  | none => .fail

def loadPtr (P : Program) (t : TypeId) (b off : Nat) : RM (Tr Out) :=
  .look b fun cs => match isAggT P t with
    | some true => match tySize P t with
      | some sz => aggO (subB off sz cs)
      | none => .fail
    | some false => cellO (getC cs off)
    | none => .fail

def loadX (P : Program) (t : TypeId) (c : XC) (i : Nat) : RM (Tr Out) :=
  match isAggT P t with
  | some false => match c with
    | .ints k xs => .pure (.need (decide (i < xs.length)) (oneT (.nat k (xs.getD i 0))))
    | .bss xss => .pure (.need (decide (i < xss.length)) (oneT (.xsl (.ints .u8 (xss.getD i [])))))
    | .arrs _ _ _ => .fail
  | some true => match tySize P t with
    | some sz => match c with
      | .ints k xs => .pure (.need (decide (i + sz ≤ xs.length)) (.leaf (Out.val (.agg [.ints k sz ((xs.drop i).take sz)]))))
      | .arrs k n xss => match Nat.beq n sz with
        | true => .pure (.need (decide (i < xss.length)) (.leaf (Out.val (.agg [.ints k n (xss.getD i [])]))))
        | false => .fail
      | .bss _ => .fail
    | none => .fail
  | none => .fail

def loadSem (P : Program) (t : TypeId) : AV → RM (Tr Out)
  | .s (.ptr b off) => loadPtr P t b off
  | .s (.xptr c i) => loadX P t c i
  | _ => .fail

def storeO (b : Nat) : Option (List Bool × List Ch) → RM (Tr Out)
  | some (r, cs') => .pure (Tr.needs r (.leaf ⟨.any, [(b, some cs')], []⟩))
  | none => .fail

def putO : Option (List Ch) → Option (List Bool × List Ch)
  | some cs => some ([], cs)
  | none => none

def storeSem (P : Program) (t : TypeId) : AV → AV → RM (Tr Out)
  | .s (.ptr b off), .s v => match tySize P t with
    | some sz => match Nat.beq sz 1 with
      | true => .look b fun cs => storeO b (setC v cs off)
      | false => .fail
    | none => .fail
  | .s (.ptr b off), .agg new => match tySize P t with
    | some sz => match Nat.beq (sizeB new) sz with
      | true => .look b fun cs => storeO b (putO (putB off new cs))
      | false => .fail
    | none => .fail
  | _, _ => .fail

def nilCheckSem : AV → RM (Tr Out)
  | .s (.ptr b off) => .pure (oneT (.ptr b off))
  | _ => .fail

def svO : Option (Tr SV) → RM (Tr Out)
  | some t => .pure (svT t)
  | none => .fail

def eqO (op : BinOp) : Option Bool → RM (Tr Out)
  | some t => match op with
    | .eql => .pure (oneT (.bool t))
    | .neq => .pure (oneT (.bool (!t)))
    | _ => .fail
  | none => .fail

/-- Two arrays of numbers. -/
def eqAgg (P : Program) (t : TypeId) : List Ch → List Ch → Option Bool
  | [.ints k n xs], [.ints k' n' ys] => match decide (k = k') && Nat.beq n n' with
    | true => match P.underlying t with
      | some (.array m e) => match Nat.beq n m, P.underlying e with
        | true, some (.int k'') => match tySize P e, decide (k = k''), P.eqGuardType P.depth t with
          | some 1, true, false => some (decide (xs = ys))
          | _, _, _ => none
        | _, _ => none
      | _ => none
    | false => none
  | _, _ => none

def binOpSem (P : Program) (m : SubMode) (op : BinOp) (t : TypeId) : AV → AV → RM (Tr Out)
  | .s (.bool a), .s (.bool b) => match P.underlying t with
    | some .bool => eqO op (some (a == b))
    | _ => .fail
  | .s a, .s b => svO (binSem m op a b)
  | .agg a, .agg b => eqO op (eqAgg P t a b)
  | _, _ => .fail

def unSem (op : UnOp) : AV → RM (Tr Out)
  | .s (.bool b) => match op with
    | .not => .pure (oneT (.bool (!b)))
    | _ => .fail
  | .s (.nat k n) => match op with
    | .xor => match isU k with
      | true => .pure (oneT (.nat k (lim k - 1 - n)))
      | false => .fail
    | _ => .fail
  | _ => .fail

def strT (xs : List Nat) : RM (Tr Out) := .pure (oneT (.str xs))

def toStr (P : Program) (src : TypeId) : SV → RM (Tr Out)
  | .str s => strT s
  | v => match P.underlying src with
    | some (.slice e) => match P.underlying e with
      | some (.int .u8) => (bytesOf v).bind fun (x : List Bool × List Nat) => RM.needs x.1 (strT x.2)
      | _ => .fail
    | _ => .fail

def toBytes (P : Program) (nx : Nat) (e : TypeId) : SV → RM (Tr Out)
  | .str s => match P.underlying e with
    | some (.int .u8) => .pure (.leaf ⟨.s (.sl .whole nx 0 s.length 1), [], [(nx, [.ints .u8 s.length s])]⟩)
    | _ => .fail
  | _ => .fail

def convSem (P : Program) (nx : Nat) (src dst : TypeId) : AV → RM (Tr Out)
  | .s v => match P.underlying src with
    | some _ => match P.underlying dst with
      | some (.int k) => svO (convI k v)
      | some .string => toStr P src v
      | some (.slice e) => toBytes P nx e v
      | _ => .fail
    | none => .fail
  | _ => .fail

def toArrSem (P : Program) (t : TypeId) : AV → RM (Tr Out)
  | .s (.sl _ b off len _) => match P.underlying t with
    | some (.array (n + 1) _) => .pure (.need (decide (n + 1 ≤ len)) (oneT (.ptr b off)))
    | _ => .fail
  | .s (.xsl (.ints k xs)) => match P.underlying t with
    | some (.array (n + 1) _) => .pure (.need (decide (n + 1 ≤ xs.length)) (oneT (.xptr (.ints k xs) 0)))
    | _ => .fail
  | _ => .fail

def makeFuncSem (f : Nat) (first cap : List AV) : RM (Tr Out) :=
  match avPtrs first with
  | some a => match avPtrs cap with
    | some c => .pure (oneT (.fn f a c))
    | none => .fail
  | none => .fail

def makeO (nx : Nat) (k : IntKind) (l c : Option (List Bool × Nat)) : RM (Tr Out) :=
  match l with
  | some (rl, l) => match c with
    | some (rc, c) => .pure (Tr.needs (rl ++ (rc ++ [decide (l ≤ c), decide (c ≤ 4398046511104)]))
        (.leaf ⟨.s (.sl .whole nx 0 l 1), [], [(nx, [.ints k l (List.replicate l 0)])]⟩))
    | none => .fail
  | none => .fail

def makeSliceSem (P : Program) (nx : Nat) (t : TypeId) : AV → AV → RM (Tr Out)
  | .s l, .s c => match elemInt P t with
    | some k => makeO nx k (asIx l) (asIx c)
    | none => .fail
  | _, _ => .fail

def cutO (f : Option Nat → Option Nat → SV) : Option (List Bool × Option Nat × Option Nat) → RM (Tr Out)
  | some (r, l, h) => .pure (Tr.needs r (oneT (f l h)))
  | none => .fail

/-- An array that is a block as a whole. -/
def arrK (off n size : Nat) : LK := match Nat.beq off 0 && Nat.beq n size with
  | true => .whole
  | false => .mid

def slicePtr (P : Program) (t : TypeId) (b off : Nat) (lo hi : Option AV) : RM (Tr Out) :=
  match P.underlying t with
  | some (.array n e) => match tySize P e with
    | some sz => .look b fun cs => match Nat.ble (off + n * sz) (sizeB cs) with
      | true => cutO (cutAt (arrK off (n * sz) (sizeB cs)) b off n sz) (bounds n lo hi)
      | false => .fail
    | none => .fail
  | _ => .fail

def sliceSl (P : Program) (t : TypeId) (sz len : Nat) (f : Option Nat → Option Nat → SV) (lo hi : Option AV) : RM (Tr Out) :=
  match P.underlying t with
  | some (.slice e) => match tySize P e with
    | some sz' => match Nat.beq sz sz' with
      | true => cutO f (bounds len lo hi)
      | false => .fail
    | none => .fail
  | _ => .fail

def sliceSem (P : Program) (t : TypeId) (lo hi : Option AV) : AV → RM (Tr Out)
  | .s (.ptr b off) => slicePtr P t b off lo hi
  | .s (.sl m b off len sz) => sliceSl P t sz len (cutAt m b off len sz) lo hi
  | .s (.xsl c) => sliceSl P t c.sz c.len (fun l h => .xsl (c.cut l h)) lo hi
  | .s (.str s) => match P.underlying t with
    | some .string => cutO (fun l h => .str (dropN (takeN s h) l)) (bounds s.length lo hi)
    | _ => .fail
  | _ => .fail

def fieldAddrSem (P : Program) (t : TypeId) (f : Nat) : AV → RM (Tr Out)
  | .s (.ptr b off) => match P.underlying t with
    | some (.struct fs) => match placeS P fs f with
      | some (o, _ + 1) => .pure (oneT (.ptr b (addOff off o)))
      | _ => .fail
    | _ => .fail
  | _ => .fail

def partSem (P : Program) (e : TypeId) (off : Nat) (cs : List Ch) : RM (Tr Out) :=
  match isAggT P e with
  | some true => match tySize P e with
    | some sz => aggO (subB off sz cs)
    | none => .fail
  | some false => cellO (getC cs off)
  | none => .fail

def fieldSem (P : Program) (t : TypeId) (f : Nat) : AV → RM (Tr Out)
  | .agg cs => match P.underlying t with
    | some (.struct fs) => match fs[f]? with
      | some fd => partSem P fd.type fd.offset cs
      | none => .fail
    | _ => .fail
  | _ => .fail

def withIx (i : AV) (f : List Bool → Nat → RM (Tr Out)) : RM (Tr Out) :=
  match i with
  | .s iv => match asIx iv with
    | some (r, i) => f r i
    | none => .fail
  | _ => .fail

def ixSl (P : Program) (t : TypeId) (sz len : Nat) (v : SV) (r : List Bool) (i : Nat) : RM (Tr Out) :=
  match P.underlying t with
  | some (.slice e) => match tySize P e with
    | some sz' => match Nat.beq sz sz' with
      | true => .pure (Tr.needs (r ++ [decide (i < len)]) (oneT v))
      | false => .fail
    | none => .fail
  | _ => .fail

def indexAddrSem (P : Program) (t : TypeId) (x i : AV) : RM (Tr Out) := withIx i fun r i =>
  match x with
  | .s (.ptr b off) => match P.underlying t with
    | some (.array n e) => match tySize P e with
      | some sz => .pure (Tr.needs (r ++ [decide (i < n)]) (oneT (.ptr b (addOff off (mulSz i sz)))))
      | none => .fail
    | _ => .fail
  | .s (.sl _ b off len sz) => ixSl P t sz len (.ptr b (addOff off (mulSz i sz))) r i
  | .s (.xsl c) => ixSl P t c.sz c.len (.xptr c i) r i
  | _ => .fail

def ixArr (P : Program) (e : TypeId) (n : Nat) (cs : List Ch) (r : List Bool) (i : Nat) : RM (Tr Out) :=
  match isAggT P e with
  | some false => match tySize P e with
    | some sz => match Nat.beq sz 1 with
      | true => match getC cs i with
        | some (r', v) => .pure (Tr.needs (r ++ (decide (i < n) :: r')) (oneT v))
        | none => .fail
      | false => .fail
    | none => .fail
  | some true => match tySize P e with
    | some sz => match subB (i * sz) sz cs with
      | some cs' => .pure (Tr.needs (r ++ [decide (i < n)]) (.leaf (Out.val (.agg cs'))))
      | none => .fail
    | none => .fail
  | none => .fail

def indexSem (P : Program) (t : TypeId) (x i : AV) : RM (Tr Out) := withIx i fun r i =>
  match x with
  | .agg cs => match P.underlying t with
    | some (.array n e) => ixArr P e n cs r i
    | _ => .fail
  | .s (.str s) => match P.underlying t with
    | some .string => .pure (Tr.needs (r ++ [decide (i < s.length)]) (oneT (.nat .u8 (s.getD i 0))))
    | _ => .fail
  | _ => .fail

def extractSem (i : Nat) : AV → RM (Tr Out)
  | .tup vs => match vs[i]? with
    | some v => .pure (.leaf (Out.val v))
    | none => .fail
  | _ => .fail

def natT (n : Nat) : RM (Tr Out) := .pure (.need (decide (n < 9223372036854775808)) (oneT (.nat .i64 n)))

def lenSem (P : Program) (t : TypeId) : AV → RM (Tr Out)
  | .s (.str s) => match P.underlying t with
    | some .string => natT s.length
    | _ => .fail
  | .s v => match P.underlying t with
    | some (.slice _) => match v with
      | .sl _ _ _ n _ => natT n
      | .nil => natT 0
      | .xsl c => natT c.len
      | _ => .fail
    | _ => .fail
  | _ => .fail

def minSem : AV → AV → RM (Tr Out)
  | .s (.nat .i64 a), .s (.nat .i64 b) => natT (min a b)
  | _, _ => .fail

/-- The length of a source, as it was told. -/
def srcLen (ys : List Nat) : SV → Nat
  | .sl _ _ _ len _ => len
  | _ => ys.length

def catR (nx b len : Nat) (k : IntKind) (ys : List Nat) (m : Nat) : Option (List Bool × List Nat) → RM (Tr Out)
  | some (r, xs) => .pure (Tr.needs (r ++ [decide (len + m ≤ 4398046511104)])
      (.leaf ⟨.s (.sl .whole nx 0 (len + m) 1), [(b, none)], [(nx, [.ints k (len + m) (xs ++ ys)])]⟩))
  | none => .fail

def catO (nx : Nat) (k : IntKind) (ys : List Nat) (m : Nat) : SV → RM (Tr Out)
  | .nil => .pure (.need (decide (m ≤ 4398046511104)) (.leaf ⟨.s (.sl .whole nx 0 m 1), [], [(nx, [.ints k m ys])]⟩))
  | .sl q b off len 1 => .look b fun cs => catR nx b len k ys m (rowOf k q off len cs)
  | _ => .fail

def catSrc (k : IntKind) : SV → RM (List Bool × XC)
  | .str s => match k with
    | .u8 => .pure ([], .ints .u8 s)
    | _ => .fail
  | x => readSl (.ints k) x

def notInt (P : Program) (t : TypeId) : Bool := match P.underlying t with
  | some (.slice _) => true
  | some .string => true
  | _ => false

def withI (k : IntKind) (f : List Nat → RM (Tr Out)) (c : List Bool × XC) : RM (Tr Out) :=
  match c.2 with
  | .ints k' ys => match decide (k = k') with
    | true => RM.needs c.1 (f ys)
    | false => .fail
  | _ => .fail

def appendSem (P : Program) (nx : Nat) (t t2 : TypeId) : AV → AV → RM (Tr Out)
  | .s a, .s x => match notInt P t2 with
    | true => match elemInt P t with
      | some k => (catSrc k x).bind (withI k fun ys => catO nx k ys (srcLen ys x) a)
      | none => .fail
    | false => .fail
  | _, _ => .fail

def copyO (k : IntKind) (ys : List Nat) (m : Nat) : SV → RM (Tr Out)
  | .sl _ b off len 1 => .look b fun cs => match cs with
    | [.ints k' n xs] => match decide (k = k') with
      | true => .pure (Tr.needs [decide (addOff off len ≤ n), decide (len ≤ 4398046511104)]
          (.leaf ⟨.s (.nat .i64 (min m len)), [(b, some [.ints k n (xs.take off ++ (ys.take (min m len) ++ xs.drop (off + min m len)))])], []⟩))
      | false => .fail
    | _ => .fail
  | _ => .fail

def copySem (P : Program) (t : TypeId) : AV → AV → RM (Tr Out)
  | .s a, .s x => match elemInt P t with
    | some k => (catSrc k x).bind (withI k fun ys => copyO k ys (srcLen ys x) a)
    | none => .fail
  | _, _ => .fail

def builtinSem (P : Program) (nx : Nat) (b : Builtin) (ts : List TypeId) (args : List AV) : RM (Tr Out) :=
  match b with
  | .len => match args, ts with
    | [x], [t] => lenSem P t x
    | _, _ => .fail
  | .min => match args with
    | [x, y] => minSem x y
    | _ => .fail
  | .append => match args, ts with
    | [x, y], [t, t2] => appendSem P nx t t2 x y
    | _, _ => .fail
  | .copy => match args, ts with
    | [x, y], [t, _] => copySem P t x y
    | _, _ => .fail
  | _ => .fail

def callOp (E : Env) (nx : Nat) (ρ : Operand → AV) (c : Call) : RM (Tr Out) :=
  match c.callee with
  | .value (.func f) => callSem E f c.argTypes.toList nx (c.args.toList.map ρ)
  | .value f => match ρ f with
    | .s (.fn f first cap) => callSem E f c.argTypes.toList nx (ptrsAV first ++ (c.args.toList.map ρ ++ ptrsAV cap))
    | _ => .fail
  | .builtin b => builtinSem E.P nx b c.argTypes.toList (c.args.toList.map ρ)
  | _ => .fail

def refAV (ρ : Operand → AV) : Option Operand → Option AV
  | none => none
  | some x => some (ρ x)

def partsAV (ρ : Operand → AV) (ps : Array (Nat × Operand)) : List (Nat × AV) := ps.toList.map fun p => (p.1, ρ p.2)

/-- One operation. -/
def opSem (E : Env) (m : SubMode) (ρ : Operand → AV) (nx : Nat) (o : Op) : RM (Tr Out) :=
  match o with
  | .move x => .pure (.leaf (Out.val (ρ x)))
  | .assign x => .pure (.leaf (Out.val (ρ x)))
  | .pick c a b => pickSem (ρ c) (ρ a) (ρ b)
  | .alloc t => newSem nx (zeroB E.P t)
  | .box _ x => newSem nx (ρ x).cells
  | .build t ps => buildSem E.P t (partsAV ρ ps)
  | .buildSlice t n ps => buildSliceSem E.P nx t n (partsAV ρ ps)
  | .load t x => loadSem E.P t (ρ x)
  | .store t x y => storeSem E.P t (ρ x) (ρ y)
  | .nilCheck x => nilCheckSem (ρ x)
  | .binOp op t x y _ => binOpSem E.P m op t (ρ x) (ρ y)
  | .unOp op _ x => unSem op (ρ x)
  | .convert src dst x => convSem E.P nx src dst (ρ x)
  | .sliceToArrayPointer t x => toArrSem E.P t (ρ x)
  | .makeFunc (.func f) first cap => makeFuncSem f (first.toList.map ρ) (cap.toList.map ρ)
  | .makeSlice t l c => makeSliceSem E.P nx t (ρ l) (ρ c)
  | .slice t x lo hi none => sliceSem E.P t (refAV ρ lo) (refAV ρ hi) (ρ x)
  | .fieldAddr t x f => fieldAddrSem E.P t f (ρ x)
  | .field t x f => fieldSem E.P t f (ρ x)
  | .indexAddr t x i => indexAddrSem E.P t (ρ x) (ρ i)
  | .index t x i => indexSem E.P t (ρ x) (ρ i)
  | .extract x i => extractSem i (ρ x)
  | .call c => callOp E nx ρ c
  | _ => .fail

/-! States. -/
structure St where
  T : List (Nat × AV)
  H : List (Nat × Blk)
  nx : Nat

def lkT : List (Nat × AV) → Nat → AV
  | [], _ => .any
  | (k, v) :: r, t => match Nat.beq k t with
    | true => v
    | false => lkT r t

def upT (d : Nat) (v : AV) : List (Nat × AV) → List (Nat × AV)
  | [] => [(d, v)]
  | (k, u) :: r => match Nat.beq k d with
    | true => (d, v) :: r
    | false => (k, u) :: upT d v r

def upH : Nat → Option Blk → List (Nat × Blk) → List (Nat × Blk)
  | _, none, [] => []
  | n, some c, [] => [(n, c)]
  | n, oc, (k, u) :: r => match Nat.beq k n with
    | true => match oc with
      | some c => (n, c) :: r
      | none => upH n none r
    | false => (k, u) :: upH n oc r

def upHs : List (Nat × Option Blk) → List (Nat × Blk) → List (Nat × Blk)
  | [], h => h
  | (n, c) :: r, h => upHs r (upH n c h)

def St.val (s : St) : Operand → AV
  | .tmp t => lkT s.T t
  | .const v => litAV v
  | _ => .any

def St.put (s : St) (dst : Option Nat) (v : AV) : St := match dst with
  | some d => { s with T := upT d v s.T }
  | none => s

def St.app (s : St) (dst : Option Nat) (o : Out) : St :=
  { T := match dst with
      | some d => upT d o.v s.T
      | none => s.T
    H := o.nw ++ upHs o.wr s.H
    nx := s.nx + o.nw.length }

end Go.Proofs.Ytgebgjhjegadpaa

/-
  No cell of these rows narrows 'for every input' (looked for: loops, veiled, ifaces, maps, wideKeys, modest, calm, conditions, laid).
  DERIVED. THE GIVEN ROWS OF THIS SEAT. 16 by the template 'for every input the law returns true; each argument reads behind the call as it read before'; 0 by the template 'total and deterministic' (their statements: YtgebgjhjegadpaaTotals.lean).
  GIVEN WITH THE SEED: the statements are not yours to turn. If you find one false, say at which input.
  Laid BY PROGRAM, IN A SANDBOX (cutbox-rows.mjs): the forced cells as the released guide's own fill.sh prints them over the translation fa2f2eb030c4443f… (all of the seat's roots in one cut). By AI agents, Wed Nov 11 2026. No macro, syntax, notation, axiom, sorry.
-/
import Derived.Test.YtgebgjhjegadpaaChecked
import GoSem.Claim
import GoSem.ClaimJoined
import GoSem.ClaimMapViews
import Derived.JoinedTies
import Derived.KernelRfl
namespace Go.Proofs.Ytgebgjhjegadpaa
/- THE CELL 'sum', in the pinned program and in every row, IS THE sha256 OF THE DUMP (.gsa) THAT YtgebgjhjegadpaaProg.lean LOADS. Nothing in Lean hashes anything: it is a label: what it is worth is what the hold of that sum in a sandbox is worth. -/
noncomputable def Try.pinned : Pinned := { name := "ytgebgjhjegadpaa", sum := "fa2f2eb030c4443f64aa9a31114f3d1563e60f94bb3da51ef64675dd72a25798", checked := Try.checked }
namespace Rows
def none {H : Type} : Left H := { results := [], args := [] }

/-- 'intagliolaw08.ChachaBlocks': WHATEVER THE INPUT: true; the input reads as it did. -/
def chachaBlocksSpec : ChangeSpec := { name := "chachaBlocks", fn := fun _ => fun
  | [d1, d2, d3] => { results := [.lit (.bool true)], args := [d1, d2, d3] }
  | _ => none }
def chachaBlocksRow : OpenClaim := { program := "ytgebgjhjegadpaa", sum := "fa2f2eb030c4443f64aa9a31114f3d1563e60f94bb3da51ef64675dd72a25798", func := "intaglio/intagliolaw08.ChachaBlocks", spec := "chachaBlocks", apart := false }
def ChachaBlocksSaid : Prop := chachaBlocksRow.holds Try.pinned (OpenSpec.ofChange chachaBlocksSpec)

/-- ITS FALSE NEIGHBOUR: 'it returns false'. Refute it at one input. -/
def chachaBlocksWrong : ChangeSpec := { name := "chachaBlocks", fn := fun _ => fun
  | [d1, d2, d3] => { results := [.lit (.bool false)], args := [d1, d2, d3] }
  | _ => none }
def ChachaBlocksWrongFalsely : Prop := chachaBlocksRow.holds Try.pinned (OpenSpec.ofChange chachaBlocksWrong)

/-- 'intagliolaw08.ChachaMixes': WHATEVER THE INPUT: true; the input reads as it did. -/
def chachaMixesSpec : ChangeSpec := { name := "chachaMixes", fn := fun _ => fun
  | [d1, d2, d3] => { results := [.lit (.bool true)], args := [d1, d2, d3] }
  | _ => none }
def chachaMixesRow : OpenClaim := { program := "ytgebgjhjegadpaa", sum := "fa2f2eb030c4443f64aa9a31114f3d1563e60f94bb3da51ef64675dd72a25798", func := "intaglio/intagliolaw08.ChachaMixes", spec := "chachaMixes", apart := false }
def ChachaMixesSaid : Prop := chachaMixesRow.holds Try.pinned (OpenSpec.ofChange chachaMixesSpec)

/-- ITS FALSE NEIGHBOUR: 'it returns false'. Refute it at one input. -/
def chachaMixesWrong : ChangeSpec := { name := "chachaMixes", fn := fun _ => fun
  | [d1, d2, d3] => { results := [.lit (.bool false)], args := [d1, d2, d3] }
  | _ => none }
def ChachaMixesWrongFalsely : Prop := chachaMixesRow.holds Try.pinned (OpenSpec.ofChange chachaMixesWrong)

/-- 'intagliolaw08.ChachaBack': WHATEVER THE INPUT: true; the input reads as it did. -/
def chachaBackSpec : ChangeSpec := { name := "chachaBack", fn := fun _ => fun
  | [d1, d2, d3] => { results := [.lit (.bool true)], args := [d1, d2, d3] }
  | _ => none }
def chachaBackRow : OpenClaim := { program := "ytgebgjhjegadpaa", sum := "fa2f2eb030c4443f64aa9a31114f3d1563e60f94bb3da51ef64675dd72a25798", func := "intaglio/intagliolaw08.ChachaBack", spec := "chachaBack", apart := false }
def ChachaBackSaid : Prop := chachaBackRow.holds Try.pinned (OpenSpec.ofChange chachaBackSpec)

/-- ITS FALSE NEIGHBOUR: 'it returns false'. Refute it at one input. -/
def chachaBackWrong : ChangeSpec := { name := "chachaBack", fn := fun _ => fun
  | [d1, d2, d3] => { results := [.lit (.bool false)], args := [d1, d2, d3] }
  | _ => none }
def ChachaBackWrongFalsely : Prop := chachaBackRow.holds Try.pinned (OpenSpec.ofChange chachaBackWrong)

/-- 'intagliolaw08.ChachaApart': WHATEVER THE INPUT: true; the input reads as it did. -/
def chachaApartSpec : ChangeSpec := { name := "chachaApart", fn := fun _ => fun
  | [d1, d2, d3] => { results := [.lit (.bool true)], args := [d1, d2, d3] }
  | _ => none }
def chachaApartRow : OpenClaim := { program := "ytgebgjhjegadpaa", sum := "fa2f2eb030c4443f64aa9a31114f3d1563e60f94bb3da51ef64675dd72a25798", func := "intaglio/intagliolaw08.ChachaApart", spec := "chachaApart", apart := false }
def ChachaApartSaid : Prop := chachaApartRow.holds Try.pinned (OpenSpec.ofChange chachaApartSpec)

/-- ITS FALSE NEIGHBOUR: 'it returns false'. Refute it at one input. -/
def chachaApartWrong : ChangeSpec := { name := "chachaApart", fn := fun _ => fun
  | [d1, d2, d3] => { results := [.lit (.bool false)], args := [d1, d2, d3] }
  | _ => none }
def ChachaApartWrongFalsely : Prop := chachaApartRow.holds Try.pinned (OpenSpec.ofChange chachaApartWrong)

/-- 'intagliolaw08.ChachaNoughts': WHATEVER THE INPUT: true; the input reads as it did. -/
def chachaNoughtsSpec : ChangeSpec := { name := "chachaNoughts", fn := fun _ => fun
  | [d1, d2, d3] => { results := [.lit (.bool true)], args := [d1, d2, d3] }
  | _ => none }
def chachaNoughtsRow : OpenClaim := { program := "ytgebgjhjegadpaa", sum := "fa2f2eb030c4443f64aa9a31114f3d1563e60f94bb3da51ef64675dd72a25798", func := "intaglio/intagliolaw08.ChachaNoughts", spec := "chachaNoughts", apart := false }
def ChachaNoughtsSaid : Prop := chachaNoughtsRow.holds Try.pinned (OpenSpec.ofChange chachaNoughtsSpec)

/-- ITS FALSE NEIGHBOUR: 'it returns false'. Refute it at one input. -/
def chachaNoughtsWrong : ChangeSpec := { name := "chachaNoughts", fn := fun _ => fun
  | [d1, d2, d3] => { results := [.lit (.bool false)], args := [d1, d2, d3] }
  | _ => none }
def ChachaNoughtsWrongFalsely : Prop := chachaNoughtsRow.holds Try.pinned (OpenSpec.ofChange chachaNoughtsWrong)

/-- 'intagliolaw09.PolySums': WHATEVER THE INPUT: true; the input reads as it did. -/
def polySumsSpec : ChangeSpec := { name := "polySums", fn := fun _ => fun
  | [d1, d2] => { results := [.lit (.bool true)], args := [d1, d2] }
  | _ => none }
def polySumsRow : OpenClaim := { program := "ytgebgjhjegadpaa", sum := "fa2f2eb030c4443f64aa9a31114f3d1563e60f94bb3da51ef64675dd72a25798", func := "intaglio/intagliolaw09.PolySums", spec := "polySums", unfollowed := true, recurses := true, apart := false }
def PolySumsSaid : Prop := polySumsRow.holds Try.pinned (OpenSpec.ofChange polySumsSpec)

/-- ITS FALSE NEIGHBOUR: 'it returns false'. Refute it at one input. -/
def polySumsWrong : ChangeSpec := { name := "polySums", fn := fun _ => fun
  | [d1, d2] => { results := [.lit (.bool false)], args := [d1, d2] }
  | _ => none }
def PolySumsWrongFalsely : Prop := polySumsRow.holds Try.pinned (OpenSpec.ofChange polySumsWrong)

/-- 'intagliolaw09.PolyEdges': WHATEVER THE INPUT: true; the input reads as it did. -/
def polyEdgesSpec : ChangeSpec := { name := "polyEdges", fn := fun _ => fun
  | [d1, d2, d3] => { results := [.lit (.bool true)], args := [d1, d2, d3] }
  | _ => none }
def polyEdgesRow : OpenClaim := { program := "ytgebgjhjegadpaa", sum := "fa2f2eb030c4443f64aa9a31114f3d1563e60f94bb3da51ef64675dd72a25798", func := "intaglio/intagliolaw09.PolyEdges", spec := "polyEdges", unfollowed := true, recurses := true, apart := false }
def PolyEdgesSaid : Prop := polyEdgesRow.holds Try.pinned (OpenSpec.ofChange polyEdgesSpec)

/-- ITS FALSE NEIGHBOUR: 'it returns false'. Refute it at one input. -/
def polyEdgesWrong : ChangeSpec := { name := "polyEdges", fn := fun _ => fun
  | [d1, d2, d3] => { results := [.lit (.bool false)], args := [d1, d2, d3] }
  | _ => none }
def PolyEdgesWrongFalsely : Prop := polyEdgesRow.holds Try.pinned (OpenSpec.ofChange polyEdgesWrong)

/-- 'intagliolaw09.PolyParts': WHATEVER THE INPUT: true; the input reads as it did. -/
def polyPartsSpec : ChangeSpec := { name := "polyParts", fn := fun _ => fun
  | [d1, d2] => { results := [.lit (.bool true)], args := [d1, d2] }
  | _ => none }
def polyPartsRow : OpenClaim := { program := "ytgebgjhjegadpaa", sum := "fa2f2eb030c4443f64aa9a31114f3d1563e60f94bb3da51ef64675dd72a25798", func := "intaglio/intagliolaw09.PolyParts", spec := "polyParts", unfollowed := true, recurses := true, apart := false }
def PolyPartsSaid : Prop := polyPartsRow.holds Try.pinned (OpenSpec.ofChange polyPartsSpec)

/-- ITS FALSE NEIGHBOUR: 'it returns false'. Refute it at one input. -/
def polyPartsWrong : ChangeSpec := { name := "polyParts", fn := fun _ => fun
  | [d1, d2] => { results := [.lit (.bool false)], args := [d1, d2] }
  | _ => none }
def PolyPartsWrongFalsely : Prop := polyPartsRow.holds Try.pinned (OpenSpec.ofChange polyPartsWrong)

/-- 'intagliolaw09.PolyOther': WHATEVER THE INPUT: true; the input reads as it did. -/
def polyOtherSpec : ChangeSpec := { name := "polyOther", fn := fun _ => fun
  | [d1, d2, d3] => { results := [.lit (.bool true)], args := [d1, d2, d3] }
  | _ => none }
def polyOtherRow : OpenClaim := { program := "ytgebgjhjegadpaa", sum := "fa2f2eb030c4443f64aa9a31114f3d1563e60f94bb3da51ef64675dd72a25798", func := "intaglio/intagliolaw09.PolyOther", spec := "polyOther", unfollowed := true, recurses := true, apart := false }
def PolyOtherSaid : Prop := polyOtherRow.holds Try.pinned (OpenSpec.ofChange polyOtherSpec)

/-- ITS FALSE NEIGHBOUR: 'it returns false'. Refute it at one input. -/
def polyOtherWrong : ChangeSpec := { name := "polyOther", fn := fun _ => fun
  | [d1, d2, d3] => { results := [.lit (.bool false)], args := [d1, d2, d3] }
  | _ => none }
def PolyOtherWrongFalsely : Prop := polyOtherRow.holds Try.pinned (OpenSpec.ofChange polyOtherWrong)

/-- 'intagliolaw09.PolyNought': WHATEVER THE INPUT: true; the input reads as it did. -/
def polyNoughtSpec : ChangeSpec := { name := "polyNought", fn := fun _ => fun
  | [d1, d2, d3] => { results := [.lit (.bool true)], args := [d1, d2, d3] }
  | _ => none }
def polyNoughtRow : OpenClaim := { program := "ytgebgjhjegadpaa", sum := "fa2f2eb030c4443f64aa9a31114f3d1563e60f94bb3da51ef64675dd72a25798", func := "intaglio/intagliolaw09.PolyNought", spec := "polyNought", unfollowed := true, recurses := true, apart := false }
def PolyNoughtSaid : Prop := polyNoughtRow.holds Try.pinned (OpenSpec.ofChange polyNoughtSpec)

/-- ITS FALSE NEIGHBOUR: 'it returns false'. Refute it at one input. -/
def polyNoughtWrong : ChangeSpec := { name := "polyNought", fn := fun _ => fun
  | [d1, d2, d3] => { results := [.lit (.bool false)], args := [d1, d2, d3] }
  | _ => none }
def PolyNoughtWrongFalsely : Prop := polyNoughtRow.holds Try.pinned (OpenSpec.ofChange polyNoughtWrong)

/-- 'intagliolaw10.AeadSeals': WHATEVER THE INPUT: true; the input reads as it did. -/
def aeadSealsSpec : ChangeSpec := { name := "aeadSeals", fn := fun _ => fun
  | [d1, d2, d3] => { results := [.lit (.bool true)], args := [d1, d2, d3] }
  | _ => none }
def aeadSealsRow : OpenClaim := { program := "ytgebgjhjegadpaa", sum := "fa2f2eb030c4443f64aa9a31114f3d1563e60f94bb3da51ef64675dd72a25798", func := "intaglio/intagliolaw10.AeadSeals", spec := "aeadSeals", unfollowed := true, recurses := true, apart := false }
def AeadSealsSaid : Prop := aeadSealsRow.holds Try.pinned (OpenSpec.ofChange aeadSealsSpec)

/-- ITS FALSE NEIGHBOUR: 'it returns false'. Refute it at one input. -/
def aeadSealsWrong : ChangeSpec := { name := "aeadSeals", fn := fun _ => fun
  | [d1, d2, d3] => { results := [.lit (.bool false)], args := [d1, d2, d3] }
  | _ => none }
def AeadSealsWrongFalsely : Prop := aeadSealsRow.holds Try.pinned (OpenSpec.ofChange aeadSealsWrong)

/-- 'intagliolaw10.AeadOpens': WHATEVER THE INPUT: true; the input reads as it did. -/
def aeadOpensSpec : ChangeSpec := { name := "aeadOpens", fn := fun _ => fun
  | [d1, d2, d3] => { results := [.lit (.bool true)], args := [d1, d2, d3] }
  | _ => none }
def aeadOpensRow : OpenClaim := { program := "ytgebgjhjegadpaa", sum := "fa2f2eb030c4443f64aa9a31114f3d1563e60f94bb3da51ef64675dd72a25798", func := "intaglio/intagliolaw10.AeadOpens", spec := "aeadOpens", unfollowed := true, recurses := true, apart := false }
def AeadOpensSaid : Prop := aeadOpensRow.holds Try.pinned (OpenSpec.ofChange aeadOpensSpec)

/-- ITS FALSE NEIGHBOUR: 'it returns false'. Refute it at one input. -/
def aeadOpensWrong : ChangeSpec := { name := "aeadOpens", fn := fun _ => fun
  | [d1, d2, d3] => { results := [.lit (.bool false)], args := [d1, d2, d3] }
  | _ => none }
def AeadOpensWrongFalsely : Prop := aeadOpensRow.holds Try.pinned (OpenSpec.ofChange aeadOpensWrong)

/-- 'intagliolaw10.AeadBack': WHATEVER THE INPUT: true; the input reads as it did. -/
def aeadBackSpec : ChangeSpec := { name := "aeadBack", fn := fun _ => fun
  | [d1, d2, d3] => { results := [.lit (.bool true)], args := [d1, d2, d3] }
  | _ => none }
def aeadBackRow : OpenClaim := { program := "ytgebgjhjegadpaa", sum := "fa2f2eb030c4443f64aa9a31114f3d1563e60f94bb3da51ef64675dd72a25798", func := "intaglio/intagliolaw10.AeadBack", spec := "aeadBack", unfollowed := true, recurses := true, apart := false }
def AeadBackSaid : Prop := aeadBackRow.holds Try.pinned (OpenSpec.ofChange aeadBackSpec)

/-- ITS FALSE NEIGHBOUR: 'it returns false'. Refute it at one input. -/
def aeadBackWrong : ChangeSpec := { name := "aeadBack", fn := fun _ => fun
  | [d1, d2, d3] => { results := [.lit (.bool false)], args := [d1, d2, d3] }
  | _ => none }
def AeadBackWrongFalsely : Prop := aeadBackRow.holds Try.pinned (OpenSpec.ofChange aeadBackWrong)

/-- 'intagliolaw10.AeadTells': WHATEVER THE INPUT: true; the input reads as it did. -/
def aeadTellsSpec : ChangeSpec := { name := "aeadTells", fn := fun _ => fun
  | [d1, d2, d3] => { results := [.lit (.bool true)], args := [d1, d2, d3] }
  | _ => none }
def aeadTellsRow : OpenClaim := { program := "ytgebgjhjegadpaa", sum := "fa2f2eb030c4443f64aa9a31114f3d1563e60f94bb3da51ef64675dd72a25798", func := "intaglio/intagliolaw10.AeadTells", spec := "aeadTells", unfollowed := true, recurses := true, apart := false }
def AeadTellsSaid : Prop := aeadTellsRow.holds Try.pinned (OpenSpec.ofChange aeadTellsSpec)

/-- ITS FALSE NEIGHBOUR: 'it returns false'. Refute it at one input. -/
def aeadTellsWrong : ChangeSpec := { name := "aeadTells", fn := fun _ => fun
  | [d1, d2, d3] => { results := [.lit (.bool false)], args := [d1, d2, d3] }
  | _ => none }
def AeadTellsWrongFalsely : Prop := aeadTellsRow.holds Try.pinned (OpenSpec.ofChange aeadTellsWrong)

/-- 'intagliolaw10.AeadLimits': WHATEVER THE INPUT: true; the input reads as it did. -/
def aeadLimitsSpec : ChangeSpec := { name := "aeadLimits", fn := fun _ => fun
  | [d1, d2] => { results := [.lit (.bool true)], args := [d1, d2] }
  | _ => none }
def aeadLimitsRow : OpenClaim := { program := "ytgebgjhjegadpaa", sum := "fa2f2eb030c4443f64aa9a31114f3d1563e60f94bb3da51ef64675dd72a25798", func := "intaglio/intagliolaw10.AeadLimits", spec := "aeadLimits", unfollowed := true, recurses := true, apart := false }
def AeadLimitsSaid : Prop := aeadLimitsRow.holds Try.pinned (OpenSpec.ofChange aeadLimitsSpec)

/-- ITS FALSE NEIGHBOUR: 'it returns false'. Refute it at one input. -/
def aeadLimitsWrong : ChangeSpec := { name := "aeadLimits", fn := fun _ => fun
  | [d1, d2] => { results := [.lit (.bool false)], args := [d1, d2] }
  | _ => none }
def AeadLimitsWrongFalsely : Prop := aeadLimitsRow.holds Try.pinned (OpenSpec.ofChange aeadLimitsWrong)

/-- 'intagliolaw10.AeadBound': WHATEVER THE INPUT: true; the input reads as it did. -/
def aeadBoundSpec : ChangeSpec := { name := "aeadBound", fn := fun _ => fun
  | [d1, d2, d3] => { results := [.lit (.bool true)], args := [d1, d2, d3] }
  | _ => none }
def aeadBoundRow : OpenClaim := { program := "ytgebgjhjegadpaa", sum := "fa2f2eb030c4443f64aa9a31114f3d1563e60f94bb3da51ef64675dd72a25798", func := "intaglio/intagliolaw10.AeadBound", spec := "aeadBound", unfollowed := true, recurses := true, apart := false }
def AeadBoundSaid : Prop := aeadBoundRow.holds Try.pinned (OpenSpec.ofChange aeadBoundSpec)

/-- ITS FALSE NEIGHBOUR: 'it returns false'. Refute it at one input. -/
def aeadBoundWrong : ChangeSpec := { name := "aeadBound", fn := fun _ => fun
  | [d1, d2, d3] => { results := [.lit (.bool false)], args := [d1, d2, d3] }
  | _ => none }
def AeadBoundWrongFalsely : Prop := aeadBoundRow.holds Try.pinned (OpenSpec.ofChange aeadBoundWrong)

/- THE SECOND FORM. 'bulk': how many values and letters a reading holds, each counted each time it is reached (what is shared counts as often as it is met; a slice's spare places count too). A statement '..UptoSaid' is the law's where the arguments, and the package variables that the reading takes, are together of bulk at most 1048576: NARROWER than '..Said'. Prove '..Said' where nothing that the law and all that it calls make is longer than what came in: it says more and counts as full. Else prove '..UptoSaid'. A law counts once. -/
mutual
def uptoBulk {H : Type} : DataW H → Nat
  | .lit (.string bytes) => bytes.length + 1
  | .lit _ => 1
  | .nil => 1
  | .ptr d => uptoBulk d + 1
  | .slice elems spare => uptoBulkAll elems + uptoBulkAll spare + 1
  | .agg parts => uptoBulkAll parts + 1
  | .iface _ d => uptoBulk d + 1
  | .map entries => uptoBulkEntries entries + 1
  | .held _ => 1
def uptoBulkAll {H : Type} : List (DataW H) → Nat
  | [] => 0
  | d :: r => uptoBulk d + uptoBulkAll r
def uptoBulkEntries {H : Type} : List (Lit × DataW H) → Nat
  | [] => 0
  | x :: r => uptoBulkEntry x + uptoBulkEntries r
def uptoBulkEntry {H : Type} : Lit × DataW H → Nat
  | (.string bytes, d) => bytes.length + uptoBulk d + 1
  | (_, d) => uptoBulk d + 1
 end
def uptoSmall : (H : Type) → List (DataW H) → Bool := fun _ ds => decide (uptoBulkAll ds ≤ 1048576)
def OpenSpec.upto (s : _root_.Go.ChangeSpec) : _root_.Go.OpenSpec := { _root_.Go.OpenSpec.ofChange s with cond := some uptoSmall }

/-- 'intagliolaw08.ChachaBlocks', WHERE WHAT IT READS IS OF BULK AT MOST 1048576: true; the input reads as it did. -/
def chachaBlocksUptoRow : OpenClaim := { program := "ytgebgjhjegadpaa", sum := "fa2f2eb030c4443f64aa9a31114f3d1563e60f94bb3da51ef64675dd72a25798", func := "intaglio/intagliolaw08.ChachaBlocks", spec := "chachaBlocks", apart := false, narrowed := true }
def ChachaBlocksUptoSaid : Prop := chachaBlocksUptoRow.holds Try.pinned (OpenSpec.upto chachaBlocksSpec)

/-- 'intagliolaw08.ChachaMixes', WHERE WHAT IT READS IS OF BULK AT MOST 1048576: true; the input reads as it did. -/
def chachaMixesUptoRow : OpenClaim := { program := "ytgebgjhjegadpaa", sum := "fa2f2eb030c4443f64aa9a31114f3d1563e60f94bb3da51ef64675dd72a25798", func := "intaglio/intagliolaw08.ChachaMixes", spec := "chachaMixes", apart := false, narrowed := true }
def ChachaMixesUptoSaid : Prop := chachaMixesUptoRow.holds Try.pinned (OpenSpec.upto chachaMixesSpec)

/-- 'intagliolaw08.ChachaBack', WHERE WHAT IT READS IS OF BULK AT MOST 1048576: true; the input reads as it did. -/
def chachaBackUptoRow : OpenClaim := { program := "ytgebgjhjegadpaa", sum := "fa2f2eb030c4443f64aa9a31114f3d1563e60f94bb3da51ef64675dd72a25798", func := "intaglio/intagliolaw08.ChachaBack", spec := "chachaBack", apart := false, narrowed := true }
def ChachaBackUptoSaid : Prop := chachaBackUptoRow.holds Try.pinned (OpenSpec.upto chachaBackSpec)

/-- 'intagliolaw08.ChachaApart', WHERE WHAT IT READS IS OF BULK AT MOST 1048576: true; the input reads as it did. -/
def chachaApartUptoRow : OpenClaim := { program := "ytgebgjhjegadpaa", sum := "fa2f2eb030c4443f64aa9a31114f3d1563e60f94bb3da51ef64675dd72a25798", func := "intaglio/intagliolaw08.ChachaApart", spec := "chachaApart", apart := false, narrowed := true }
def ChachaApartUptoSaid : Prop := chachaApartUptoRow.holds Try.pinned (OpenSpec.upto chachaApartSpec)

/-- 'intagliolaw08.ChachaNoughts', WHERE WHAT IT READS IS OF BULK AT MOST 1048576: true; the input reads as it did. -/
def chachaNoughtsUptoRow : OpenClaim := { program := "ytgebgjhjegadpaa", sum := "fa2f2eb030c4443f64aa9a31114f3d1563e60f94bb3da51ef64675dd72a25798", func := "intaglio/intagliolaw08.ChachaNoughts", spec := "chachaNoughts", apart := false, narrowed := true }
def ChachaNoughtsUptoSaid : Prop := chachaNoughtsUptoRow.holds Try.pinned (OpenSpec.upto chachaNoughtsSpec)

/-- 'intagliolaw09.PolySums', WHERE WHAT IT READS IS OF BULK AT MOST 1048576: true; the input reads as it did. -/
def polySumsUptoRow : OpenClaim := { program := "ytgebgjhjegadpaa", sum := "fa2f2eb030c4443f64aa9a31114f3d1563e60f94bb3da51ef64675dd72a25798", func := "intaglio/intagliolaw09.PolySums", spec := "polySums", unfollowed := true, recurses := true, apart := false, narrowed := true }
def PolySumsUptoSaid : Prop := polySumsUptoRow.holds Try.pinned (OpenSpec.upto polySumsSpec)

/-- 'intagliolaw09.PolyEdges', WHERE WHAT IT READS IS OF BULK AT MOST 1048576: true; the input reads as it did. -/
def polyEdgesUptoRow : OpenClaim := { program := "ytgebgjhjegadpaa", sum := "fa2f2eb030c4443f64aa9a31114f3d1563e60f94bb3da51ef64675dd72a25798", func := "intaglio/intagliolaw09.PolyEdges", spec := "polyEdges", unfollowed := true, recurses := true, apart := false, narrowed := true }
def PolyEdgesUptoSaid : Prop := polyEdgesUptoRow.holds Try.pinned (OpenSpec.upto polyEdgesSpec)

/-- 'intagliolaw09.PolyParts', WHERE WHAT IT READS IS OF BULK AT MOST 1048576: true; the input reads as it did. -/
def polyPartsUptoRow : OpenClaim := { program := "ytgebgjhjegadpaa", sum := "fa2f2eb030c4443f64aa9a31114f3d1563e60f94bb3da51ef64675dd72a25798", func := "intaglio/intagliolaw09.PolyParts", spec := "polyParts", unfollowed := true, recurses := true, apart := false, narrowed := true }
def PolyPartsUptoSaid : Prop := polyPartsUptoRow.holds Try.pinned (OpenSpec.upto polyPartsSpec)

/-- 'intagliolaw09.PolyOther', WHERE WHAT IT READS IS OF BULK AT MOST 1048576: true; the input reads as it did. -/
def polyOtherUptoRow : OpenClaim := { program := "ytgebgjhjegadpaa", sum := "fa2f2eb030c4443f64aa9a31114f3d1563e60f94bb3da51ef64675dd72a25798", func := "intaglio/intagliolaw09.PolyOther", spec := "polyOther", unfollowed := true, recurses := true, apart := false, narrowed := true }
def PolyOtherUptoSaid : Prop := polyOtherUptoRow.holds Try.pinned (OpenSpec.upto polyOtherSpec)

/-- 'intagliolaw09.PolyNought', WHERE WHAT IT READS IS OF BULK AT MOST 1048576: true; the input reads as it did. -/
def polyNoughtUptoRow : OpenClaim := { program := "ytgebgjhjegadpaa", sum := "fa2f2eb030c4443f64aa9a31114f3d1563e60f94bb3da51ef64675dd72a25798", func := "intaglio/intagliolaw09.PolyNought", spec := "polyNought", unfollowed := true, recurses := true, apart := false, narrowed := true }
def PolyNoughtUptoSaid : Prop := polyNoughtUptoRow.holds Try.pinned (OpenSpec.upto polyNoughtSpec)

/-- 'intagliolaw10.AeadSeals', WHERE WHAT IT READS IS OF BULK AT MOST 1048576: true; the input reads as it did. -/
def aeadSealsUptoRow : OpenClaim := { program := "ytgebgjhjegadpaa", sum := "fa2f2eb030c4443f64aa9a31114f3d1563e60f94bb3da51ef64675dd72a25798", func := "intaglio/intagliolaw10.AeadSeals", spec := "aeadSeals", unfollowed := true, recurses := true, apart := false, narrowed := true }
def AeadSealsUptoSaid : Prop := aeadSealsUptoRow.holds Try.pinned (OpenSpec.upto aeadSealsSpec)

/-- 'intagliolaw10.AeadOpens', WHERE WHAT IT READS IS OF BULK AT MOST 1048576: true; the input reads as it did. -/
def aeadOpensUptoRow : OpenClaim := { program := "ytgebgjhjegadpaa", sum := "fa2f2eb030c4443f64aa9a31114f3d1563e60f94bb3da51ef64675dd72a25798", func := "intaglio/intagliolaw10.AeadOpens", spec := "aeadOpens", unfollowed := true, recurses := true, apart := false, narrowed := true }
def AeadOpensUptoSaid : Prop := aeadOpensUptoRow.holds Try.pinned (OpenSpec.upto aeadOpensSpec)

/-- 'intagliolaw10.AeadBack', WHERE WHAT IT READS IS OF BULK AT MOST 1048576: true; the input reads as it did. -/
def aeadBackUptoRow : OpenClaim := { program := "ytgebgjhjegadpaa", sum := "fa2f2eb030c4443f64aa9a31114f3d1563e60f94bb3da51ef64675dd72a25798", func := "intaglio/intagliolaw10.AeadBack", spec := "aeadBack", unfollowed := true, recurses := true, apart := false, narrowed := true }
def AeadBackUptoSaid : Prop := aeadBackUptoRow.holds Try.pinned (OpenSpec.upto aeadBackSpec)

/-- 'intagliolaw10.AeadTells', WHERE WHAT IT READS IS OF BULK AT MOST 1048576: true; the input reads as it did. -/
def aeadTellsUptoRow : OpenClaim := { program := "ytgebgjhjegadpaa", sum := "fa2f2eb030c4443f64aa9a31114f3d1563e60f94bb3da51ef64675dd72a25798", func := "intaglio/intagliolaw10.AeadTells", spec := "aeadTells", unfollowed := true, recurses := true, apart := false, narrowed := true }
def AeadTellsUptoSaid : Prop := aeadTellsUptoRow.holds Try.pinned (OpenSpec.upto aeadTellsSpec)

/-- 'intagliolaw10.AeadLimits', WHERE WHAT IT READS IS OF BULK AT MOST 1048576: true; the input reads as it did. -/
def aeadLimitsUptoRow : OpenClaim := { program := "ytgebgjhjegadpaa", sum := "fa2f2eb030c4443f64aa9a31114f3d1563e60f94bb3da51ef64675dd72a25798", func := "intaglio/intagliolaw10.AeadLimits", spec := "aeadLimits", unfollowed := true, recurses := true, apart := false, narrowed := true }
def AeadLimitsUptoSaid : Prop := aeadLimitsUptoRow.holds Try.pinned (OpenSpec.upto aeadLimitsSpec)

/-- 'intagliolaw10.AeadBound', WHERE WHAT IT READS IS OF BULK AT MOST 1048576: true; the input reads as it did. -/
def aeadBoundUptoRow : OpenClaim := { program := "ytgebgjhjegadpaa", sum := "fa2f2eb030c4443f64aa9a31114f3d1563e60f94bb3da51ef64675dd72a25798", func := "intaglio/intagliolaw10.AeadBound", spec := "aeadBound", unfollowed := true, recurses := true, apart := false, narrowed := true }
def AeadBoundUptoSaid : Prop := aeadBoundUptoRow.holds Try.pinned (OpenSpec.upto aeadBoundSpec)

end Rows
end Go.Proofs.Ytgebgjhjegadpaa

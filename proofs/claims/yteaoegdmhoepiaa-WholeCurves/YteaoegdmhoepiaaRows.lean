/-
  No cell of these rows narrows 'for every input' (looked for: loops, veiled, ifaces, maps, wideKeys, modest, calm, conditions, laid).
  DERIVED. THE GIVEN ROWS OF THIS SEAT. 15 by the template 'for every input the law returns true; each argument reads behind the call as it read before'; 0 by the template 'total and deterministic' (their statements: YteaoegdmhoepiaaTotals.lean).
  GIVEN WITH THE SEED: the statements are not yours to turn. If you find one false, say at which input.
  Laid BY PROGRAM, IN A SANDBOX (cutbox-rows.mjs): the forced cells as the released guide's own fill.sh prints them over the translation dceea1a9453197b1… (all of the seat's roots in one cut). By AI agents, Wed Nov 11 2026. No macro, syntax, notation, axiom, sorry.
-/
import Derived.Test.YteaoegdmhoepiaaChecked
import GoSem.Claim
import GoSem.ClaimJoined
import GoSem.ClaimMapViews
import Derived.JoinedTies
import Derived.KernelRfl
namespace Go.Proofs.Yteaoegdmhoepiaa
/- THE CELL 'sum', in the pinned program and in every row, IS THE sha256 OF THE DUMP (.gsa) THAT YteaoegdmhoepiaaProg.lean LOADS. Nothing in Lean hashes anything: it is a label: what it is worth is what the hold of that sum in a sandbox is worth. -/
noncomputable def Try.pinned : Pinned := { name := "yteaoegdmhoepiaa", sum := "dceea1a9453197b107effad200bdcc8fbb2cd49f845e09c26110c9cb4dd203bb", checked := Try.checked }
namespace Rows
def none {H : Type} : Left H := { results := [], args := [] }

/-- 'intagliotop.WholeCurves': WHATEVER THE INPUT: true; the input reads as it did. -/
def wholeCurvesSpec : ChangeSpec := { name := "wholeCurves", fn := fun _ => fun
  | [d] => { results := [.lit (.bool true)], args := [d] }
  | _ => none }
def wholeCurvesRow : OpenClaim := { program := "yteaoegdmhoepiaa", sum := "dceea1a9453197b107effad200bdcc8fbb2cd49f845e09c26110c9cb4dd203bb", func := "intaglio/intagliotop.WholeCurves", spec := "wholeCurves", inPlace := ["math/bits.Add64"], apart := false }
def WholeCurvesSaid : Prop := wholeCurvesRow.holds Try.pinned (OpenSpec.ofChange wholeCurvesSpec)

/-- ITS FALSE NEIGHBOUR: 'it returns false'. Refute it at one input. -/
def wholeCurvesWrong : ChangeSpec := { name := "wholeCurves", fn := fun _ => fun
  | [d] => { results := [.lit (.bool false)], args := [d] }
  | _ => none }
def WholeCurvesWrongFalsely : Prop := wholeCurvesRow.holds Try.pinned (OpenSpec.ofChange wholeCurvesWrong)

/-- 'intagliolaw03.FieldBytes': WHATEVER THE INPUT: true; the input reads as it did. -/
def fieldBytesSpec : ChangeSpec := { name := "fieldBytes", fn := fun _ => fun
  | [d1, d2] => { results := [.lit (.bool true)], args := [d1, d2] }
  | _ => none }
def fieldBytesRow : OpenClaim := { program := "yteaoegdmhoepiaa", sum := "dceea1a9453197b107effad200bdcc8fbb2cd49f845e09c26110c9cb4dd203bb", func := "intaglio/intagliolaw03.FieldBytes", spec := "fieldBytes", inPlace := ["math/bits.Add64"], apart := false }
def FieldBytesSaid : Prop := fieldBytesRow.holds Try.pinned (OpenSpec.ofChange fieldBytesSpec)

/-- ITS FALSE NEIGHBOUR: 'it returns false'. Refute it at one input. -/
def fieldBytesWrong : ChangeSpec := { name := "fieldBytes", fn := fun _ => fun
  | [d1, d2] => { results := [.lit (.bool false)], args := [d1, d2] }
  | _ => none }
def FieldBytesWrongFalsely : Prop := fieldBytesRow.holds Try.pinned (OpenSpec.ofChange fieldBytesWrong)

/-- 'intagliolaw03.FieldMuls': WHATEVER THE INPUT: true; the input reads as it did. -/
def fieldMulsSpec : ChangeSpec := { name := "fieldMuls", fn := fun _ => fun
  | [d1, d2, d3] => { results := [.lit (.bool true)], args := [d1, d2, d3] }
  | _ => none }
def fieldMulsRow : OpenClaim := { program := "yteaoegdmhoepiaa", sum := "dceea1a9453197b107effad200bdcc8fbb2cd49f845e09c26110c9cb4dd203bb", func := "intaglio/intagliolaw03.FieldMuls", spec := "fieldMuls", inPlace := ["math/bits.Add64"], apart := false }
def FieldMulsSaid : Prop := fieldMulsRow.holds Try.pinned (OpenSpec.ofChange fieldMulsSpec)

/-- ITS FALSE NEIGHBOUR: 'it returns false'. Refute it at one input. -/
def fieldMulsWrong : ChangeSpec := { name := "fieldMuls", fn := fun _ => fun
  | [d1, d2, d3] => { results := [.lit (.bool false)], args := [d1, d2, d3] }
  | _ => none }
def FieldMulsWrongFalsely : Prop := fieldMulsRow.holds Try.pinned (OpenSpec.ofChange fieldMulsWrong)

/-- 'intagliolaw03.FieldAdds': WHATEVER THE INPUT: true; the input reads as it did. -/
def fieldAddsSpec : ChangeSpec := { name := "fieldAdds", fn := fun _ => fun
  | [d1, d2, d3] => { results := [.lit (.bool true)], args := [d1, d2, d3] }
  | _ => none }
def fieldAddsRow : OpenClaim := { program := "yteaoegdmhoepiaa", sum := "dceea1a9453197b107effad200bdcc8fbb2cd49f845e09c26110c9cb4dd203bb", func := "intaglio/intagliolaw03.FieldAdds", spec := "fieldAdds", inPlace := ["math/bits.Add64"], apart := false }
def FieldAddsSaid : Prop := fieldAddsRow.holds Try.pinned (OpenSpec.ofChange fieldAddsSpec)

/-- ITS FALSE NEIGHBOUR: 'it returns false'. Refute it at one input. -/
def fieldAddsWrong : ChangeSpec := { name := "fieldAdds", fn := fun _ => fun
  | [d1, d2, d3] => { results := [.lit (.bool false)], args := [d1, d2, d3] }
  | _ => none }
def FieldAddsWrongFalsely : Prop := fieldAddsRow.holds Try.pinned (OpenSpec.ofChange fieldAddsWrong)

/-- 'intagliolaw03.FieldOdd': WHATEVER THE INPUT: true; the input reads as it did. -/
def fieldOddSpec : ChangeSpec := { name := "fieldOdd", fn := fun _ => fun
  | [d1, d2, d3] => { results := [.lit (.bool true)], args := [d1, d2, d3] }
  | _ => none }
def fieldOddRow : OpenClaim := { program := "yteaoegdmhoepiaa", sum := "dceea1a9453197b107effad200bdcc8fbb2cd49f845e09c26110c9cb4dd203bb", func := "intaglio/intagliolaw03.FieldOdd", spec := "fieldOdd", inPlace := ["math/bits.Add64"], apart := false }
def FieldOddSaid : Prop := fieldOddRow.holds Try.pinned (OpenSpec.ofChange fieldOddSpec)

/-- ITS FALSE NEIGHBOUR: 'it returns false'. Refute it at one input. -/
def fieldOddWrong : ChangeSpec := { name := "fieldOdd", fn := fun _ => fun
  | [d1, d2, d3] => { results := [.lit (.bool false)], args := [d1, d2, d3] }
  | _ => none }
def FieldOddWrongFalsely : Prop := fieldOddRow.holds Try.pinned (OpenSpec.ofChange fieldOddWrong)

/-- 'intagliotop.WholeSigned': WHATEVER THE INPUT: true; the input reads as it did. -/
def wholeSignedSpec : ChangeSpec := { name := "wholeSigned", fn := fun _ => fun
  | [d1, d2, d3] => { results := [.lit (.bool true)], args := [d1, d2, d3] }
  | _ => none }
def wholeSignedRow : OpenClaim := { program := "yteaoegdmhoepiaa", sum := "dceea1a9453197b107effad200bdcc8fbb2cd49f845e09c26110c9cb4dd203bb", func := "intaglio/intagliotop.WholeSigned", spec := "wholeSigned", inPlace := ["math/bits.Add64"], unfollowed := true, recurses := true, apart := false }
def WholeSignedSaid : Prop := wholeSignedRow.holds Try.pinned (OpenSpec.ofChange wholeSignedSpec)

/-- ITS FALSE NEIGHBOUR: 'it returns false'. Refute it at one input. -/
def wholeSignedWrong : ChangeSpec := { name := "wholeSigned", fn := fun _ => fun
  | [d1, d2, d3] => { results := [.lit (.bool false)], args := [d1, d2, d3] }
  | _ => none }
def WholeSignedWrongFalsely : Prop := wholeSignedRow.holds Try.pinned (OpenSpec.ofChange wholeSignedWrong)

/-- 'intagliolaw03.FieldExponents': WHATEVER THE INPUT: true; the input reads as it did. -/
def fieldExponentsSpec : ChangeSpec := { name := "fieldExponents", fn := fun _ => fun
  | [d1, d2, d3] => { results := [.lit (.bool true)], args := [d1, d2, d3] }
  | _ => none }
def fieldExponentsRow : OpenClaim := { program := "yteaoegdmhoepiaa", sum := "dceea1a9453197b107effad200bdcc8fbb2cd49f845e09c26110c9cb4dd203bb", func := "intaglio/intagliolaw03.FieldExponents", spec := "fieldExponents", inPlace := ["math/bits.Add64"], apart := false }
def FieldExponentsSaid : Prop := fieldExponentsRow.holds Try.pinned (OpenSpec.ofChange fieldExponentsSpec)

/-- ITS FALSE NEIGHBOUR: 'it returns false'. Refute it at one input. -/
def fieldExponentsWrong : ChangeSpec := { name := "fieldExponents", fn := fun _ => fun
  | [d1, d2, d3] => { results := [.lit (.bool false)], args := [d1, d2, d3] }
  | _ => none }
def FieldExponentsWrongFalsely : Prop := fieldExponentsRow.holds Try.pinned (OpenSpec.ofChange fieldExponentsWrong)

/-- 'intagliolaw03.FieldPowers': WHATEVER THE INPUT: true; the input reads as it did. -/
def fieldPowersSpec : ChangeSpec := { name := "fieldPowers", fn := fun _ => fun
  | [d1, d2] => { results := [.lit (.bool true)], args := [d1, d2] }
  | _ => none }
def fieldPowersRow : OpenClaim := { program := "yteaoegdmhoepiaa", sum := "dceea1a9453197b107effad200bdcc8fbb2cd49f845e09c26110c9cb4dd203bb", func := "intaglio/intagliolaw03.FieldPowers", spec := "fieldPowers", inPlace := ["math/bits.Add64"], apart := false }
def FieldPowersSaid : Prop := fieldPowersRow.holds Try.pinned (OpenSpec.ofChange fieldPowersSpec)

/-- ITS FALSE NEIGHBOUR: 'it returns false'. Refute it at one input. -/
def fieldPowersWrong : ChangeSpec := { name := "fieldPowers", fn := fun _ => fun
  | [d1, d2] => { results := [.lit (.bool false)], args := [d1, d2] }
  | _ => none }
def FieldPowersWrongFalsely : Prop := fieldPowersRow.holds Try.pinned (OpenSpec.ofChange fieldPowersWrong)

/-- 'intagliolaw03.FieldRules': WHATEVER THE INPUT: true; the input reads as it did. -/
def fieldRulesSpec : ChangeSpec := { name := "fieldRules", fn := fun _ => fun
  | [d1, d2, d3] => { results := [.lit (.bool true)], args := [d1, d2, d3] }
  | _ => none }
def fieldRulesRow : OpenClaim := { program := "yteaoegdmhoepiaa", sum := "dceea1a9453197b107effad200bdcc8fbb2cd49f845e09c26110c9cb4dd203bb", func := "intaglio/intagliolaw03.FieldRules", spec := "fieldRules", inPlace := ["math/bits.Add64"], apart := false }
def FieldRulesSaid : Prop := fieldRulesRow.holds Try.pinned (OpenSpec.ofChange fieldRulesSpec)

/-- ITS FALSE NEIGHBOUR: 'it returns false'. Refute it at one input. -/
def fieldRulesWrong : ChangeSpec := { name := "fieldRules", fn := fun _ => fun
  | [d1, d2, d3] => { results := [.lit (.bool false)], args := [d1, d2, d3] }
  | _ => none }
def FieldRulesWrongFalsely : Prop := fieldRulesRow.holds Try.pinned (OpenSpec.ofChange fieldRulesWrong)

/-- 'intagliolaw03.FieldRoots': WHATEVER THE INPUT: true; the input reads as it did. -/
def fieldRootsSpec : ChangeSpec := { name := "fieldRoots", fn := fun _ => fun
  | [d1, d2] => { results := [.lit (.bool true)], args := [d1, d2] }
  | _ => none }
def fieldRootsRow : OpenClaim := { program := "yteaoegdmhoepiaa", sum := "dceea1a9453197b107effad200bdcc8fbb2cd49f845e09c26110c9cb4dd203bb", func := "intaglio/intagliolaw03.FieldRoots", spec := "fieldRoots", inPlace := ["math/bits.Add64"], apart := false }
def FieldRootsSaid : Prop := fieldRootsRow.holds Try.pinned (OpenSpec.ofChange fieldRootsSpec)

/-- ITS FALSE NEIGHBOUR: 'it returns false'. Refute it at one input. -/
def fieldRootsWrong : ChangeSpec := { name := "fieldRoots", fn := fun _ => fun
  | [d1, d2] => { results := [.lit (.bool false)], args := [d1, d2] }
  | _ => none }
def FieldRootsWrongFalsely : Prop := fieldRootsRow.holds Try.pinned (OpenSpec.ofChange fieldRootsWrong)

/-- 'intagliolaw05.LadderClimbs': WHATEVER THE INPUT: true; the input reads as it did. -/
def ladderClimbsSpec : ChangeSpec := { name := "ladderClimbs", fn := fun _ => fun
  | [d1, d2] => { results := [.lit (.bool true)], args := [d1, d2] }
  | _ => none }
def ladderClimbsRow : OpenClaim := { program := "yteaoegdmhoepiaa", sum := "dceea1a9453197b107effad200bdcc8fbb2cd49f845e09c26110c9cb4dd203bb", func := "intaglio/intagliolaw05.LadderClimbs", spec := "ladderClimbs", inPlace := ["math/bits.Add64"], apart := false }
def LadderClimbsSaid : Prop := ladderClimbsRow.holds Try.pinned (OpenSpec.ofChange ladderClimbsSpec)

/-- ITS FALSE NEIGHBOUR: 'it returns false'. Refute it at one input. -/
def ladderClimbsWrong : ChangeSpec := { name := "ladderClimbs", fn := fun _ => fun
  | [d1, d2] => { results := [.lit (.bool false)], args := [d1, d2] }
  | _ => none }
def LadderClimbsWrongFalsely : Prop := ladderClimbsRow.holds Try.pinned (OpenSpec.ofChange ladderClimbsWrong)

/-- 'intagliolaw05.LadderAgrees': WHATEVER THE INPUT: true; the input reads as it did. -/
def ladderAgreesSpec : ChangeSpec := { name := "ladderAgrees", fn := fun _ => fun
  | [d1, d2] => { results := [.lit (.bool true)], args := [d1, d2] }
  | _ => none }
def ladderAgreesRow : OpenClaim := { program := "yteaoegdmhoepiaa", sum := "dceea1a9453197b107effad200bdcc8fbb2cd49f845e09c26110c9cb4dd203bb", func := "intaglio/intagliolaw05.LadderAgrees", spec := "ladderAgrees", inPlace := ["math/bits.Add64"], apart := false }
def LadderAgreesSaid : Prop := ladderAgreesRow.holds Try.pinned (OpenSpec.ofChange ladderAgreesSpec)

/-- ITS FALSE NEIGHBOUR: 'it returns false'. Refute it at one input. -/
def ladderAgreesWrong : ChangeSpec := { name := "ladderAgrees", fn := fun _ => fun
  | [d1, d2] => { results := [.lit (.bool false)], args := [d1, d2] }
  | _ => none }
def LadderAgreesWrongFalsely : Prop := ladderAgreesRow.holds Try.pinned (OpenSpec.ofChange ladderAgreesWrong)

/-- 'intagliolaw05.LadderMeets': WHATEVER THE INPUT: true; the input reads as it did. -/
def ladderMeetsSpec : ChangeSpec := { name := "ladderMeets", fn := fun _ => fun
  | [d1, d2] => { results := [.lit (.bool true)], args := [d1, d2] }
  | _ => none }
def ladderMeetsRow : OpenClaim := { program := "yteaoegdmhoepiaa", sum := "dceea1a9453197b107effad200bdcc8fbb2cd49f845e09c26110c9cb4dd203bb", func := "intaglio/intagliolaw05.LadderMeets", spec := "ladderMeets", inPlace := ["math/bits.Add64"], apart := false }
def LadderMeetsSaid : Prop := ladderMeetsRow.holds Try.pinned (OpenSpec.ofChange ladderMeetsSpec)

/-- ITS FALSE NEIGHBOUR: 'it returns false'. Refute it at one input. -/
def ladderMeetsWrong : ChangeSpec := { name := "ladderMeets", fn := fun _ => fun
  | [d1, d2] => { results := [.lit (.bool false)], args := [d1, d2] }
  | _ => none }
def LadderMeetsWrongFalsely : Prop := ladderMeetsRow.holds Try.pinned (OpenSpec.ofChange ladderMeetsWrong)

/-- 'intagliolaw05.LadderThree': WHATEVER THE INPUT: true; the input reads as it did. -/
def ladderThreeSpec : ChangeSpec := { name := "ladderThree", fn := fun _ => fun
  | [d1, d2, d3] => { results := [.lit (.bool true)], args := [d1, d2, d3] }
  | _ => none }
def ladderThreeRow : OpenClaim := { program := "yteaoegdmhoepiaa", sum := "dceea1a9453197b107effad200bdcc8fbb2cd49f845e09c26110c9cb4dd203bb", func := "intaglio/intagliolaw05.LadderThree", spec := "ladderThree", inPlace := ["math/bits.Add64"], apart := false }
def LadderThreeSaid : Prop := ladderThreeRow.holds Try.pinned (OpenSpec.ofChange ladderThreeSpec)

/-- ITS FALSE NEIGHBOUR: 'it returns false'. Refute it at one input. -/
def ladderThreeWrong : ChangeSpec := { name := "ladderThree", fn := fun _ => fun
  | [d1, d2, d3] => { results := [.lit (.bool false)], args := [d1, d2, d3] }
  | _ => none }
def LadderThreeWrongFalsely : Prop := ladderThreeRow.holds Try.pinned (OpenSpec.ofChange ladderThreeWrong)

/-- 'intagliolaw05.LadderLow': WHATEVER THE INPUT: true; the input reads as it did. -/
def ladderLowSpec : ChangeSpec := { name := "ladderLow", fn := fun _ => fun
  | [d1, d2, d3] => { results := [.lit (.bool true)], args := [d1, d2, d3] }
  | _ => none }
def ladderLowRow : OpenClaim := { program := "yteaoegdmhoepiaa", sum := "dceea1a9453197b107effad200bdcc8fbb2cd49f845e09c26110c9cb4dd203bb", func := "intaglio/intagliolaw05.LadderLow", spec := "ladderLow", inPlace := ["math/bits.Add64"], apart := false }
def LadderLowSaid : Prop := ladderLowRow.holds Try.pinned (OpenSpec.ofChange ladderLowSpec)

/-- ITS FALSE NEIGHBOUR: 'it returns false'. Refute it at one input. -/
def ladderLowWrong : ChangeSpec := { name := "ladderLow", fn := fun _ => fun
  | [d1, d2, d3] => { results := [.lit (.bool false)], args := [d1, d2, d3] }
  | _ => none }
def LadderLowWrongFalsely : Prop := ladderLowRow.holds Try.pinned (OpenSpec.ofChange ladderLowWrong)

/- THE SECOND FORM. 'bulk': how many values and letters a reading holds, each counted each time it is reached (what is shared counts as often as it is met; a slice's spare places count too). A statement '..UptoSaid' is the law's where the arguments, and the package variables that the reading takes, are together of bulk at most 1048576: NARROWER than '..Said'. Prove '..Said' where nothing that the law and all that it calls make is longer than what came in: it says more and counts as full. Else prove '..UptoSaid'. A law counts once. -/
mutual
def uptoBulk {H : Type} : DataW H → Nat
  | .lit (.string bytes) => bytes.length + 1
  | .lit _ => 1
  | .nil => 1
  | .ptr d => uptoBulk d + 1
  | .slice elems spare => uptoBulkAll elems + uptoBulkAll spare + 1
  | .agg parts => uptoBulkAll parts + 1
  | .iface _ d => uptoBulk d + 1
  | .map entries => uptoBulkEntries entries + 1
  | .held _ => 1
def uptoBulkAll {H : Type} : List (DataW H) → Nat
  | [] => 0
  | d :: r => uptoBulk d + uptoBulkAll r
def uptoBulkEntries {H : Type} : List (Lit × DataW H) → Nat
  | [] => 0
  | x :: r => uptoBulkEntry x + uptoBulkEntries r
def uptoBulkEntry {H : Type} : Lit × DataW H → Nat
  | (.string bytes, d) => bytes.length + uptoBulk d + 1
  | (_, d) => uptoBulk d + 1
 end
def uptoSmall : (H : Type) → List (DataW H) → Bool := fun _ ds => decide (uptoBulkAll ds ≤ 1048576)
def OpenSpec.upto (s : _root_.Go.ChangeSpec) : _root_.Go.OpenSpec := { _root_.Go.OpenSpec.ofChange s with cond := some uptoSmall }

/-- 'intagliotop.WholeCurves', WHERE WHAT IT READS IS OF BULK AT MOST 1048576: true; the input reads as it did. -/
def wholeCurvesUptoRow : OpenClaim := { program := "yteaoegdmhoepiaa", sum := "dceea1a9453197b107effad200bdcc8fbb2cd49f845e09c26110c9cb4dd203bb", func := "intaglio/intagliotop.WholeCurves", spec := "wholeCurves", inPlace := ["math/bits.Add64"], apart := false, narrowed := true }
def WholeCurvesUptoSaid : Prop := wholeCurvesUptoRow.holds Try.pinned (OpenSpec.upto wholeCurvesSpec)

/-- 'intagliolaw03.FieldBytes', WHERE WHAT IT READS IS OF BULK AT MOST 1048576: true; the input reads as it did. -/
def fieldBytesUptoRow : OpenClaim := { program := "yteaoegdmhoepiaa", sum := "dceea1a9453197b107effad200bdcc8fbb2cd49f845e09c26110c9cb4dd203bb", func := "intaglio/intagliolaw03.FieldBytes", spec := "fieldBytes", inPlace := ["math/bits.Add64"], apart := false, narrowed := true }
def FieldBytesUptoSaid : Prop := fieldBytesUptoRow.holds Try.pinned (OpenSpec.upto fieldBytesSpec)

/-- 'intagliolaw03.FieldMuls', WHERE WHAT IT READS IS OF BULK AT MOST 1048576: true; the input reads as it did. -/
def fieldMulsUptoRow : OpenClaim := { program := "yteaoegdmhoepiaa", sum := "dceea1a9453197b107effad200bdcc8fbb2cd49f845e09c26110c9cb4dd203bb", func := "intaglio/intagliolaw03.FieldMuls", spec := "fieldMuls", inPlace := ["math/bits.Add64"], apart := false, narrowed := true }
def FieldMulsUptoSaid : Prop := fieldMulsUptoRow.holds Try.pinned (OpenSpec.upto fieldMulsSpec)

/-- 'intagliolaw03.FieldAdds', WHERE WHAT IT READS IS OF BULK AT MOST 1048576: true; the input reads as it did. -/
def fieldAddsUptoRow : OpenClaim := { program := "yteaoegdmhoepiaa", sum := "dceea1a9453197b107effad200bdcc8fbb2cd49f845e09c26110c9cb4dd203bb", func := "intaglio/intagliolaw03.FieldAdds", spec := "fieldAdds", inPlace := ["math/bits.Add64"], apart := false, narrowed := true }
def FieldAddsUptoSaid : Prop := fieldAddsUptoRow.holds Try.pinned (OpenSpec.upto fieldAddsSpec)

/-- 'intagliolaw03.FieldOdd', WHERE WHAT IT READS IS OF BULK AT MOST 1048576: true; the input reads as it did. -/
def fieldOddUptoRow : OpenClaim := { program := "yteaoegdmhoepiaa", sum := "dceea1a9453197b107effad200bdcc8fbb2cd49f845e09c26110c9cb4dd203bb", func := "intaglio/intagliolaw03.FieldOdd", spec := "fieldOdd", inPlace := ["math/bits.Add64"], apart := false, narrowed := true }
def FieldOddUptoSaid : Prop := fieldOddUptoRow.holds Try.pinned (OpenSpec.upto fieldOddSpec)

/-- 'intagliotop.WholeSigned', WHERE WHAT IT READS IS OF BULK AT MOST 1048576: true; the input reads as it did. -/
def wholeSignedUptoRow : OpenClaim := { program := "yteaoegdmhoepiaa", sum := "dceea1a9453197b107effad200bdcc8fbb2cd49f845e09c26110c9cb4dd203bb", func := "intaglio/intagliotop.WholeSigned", spec := "wholeSigned", inPlace := ["math/bits.Add64"], unfollowed := true, recurses := true, apart := false, narrowed := true }
def WholeSignedUptoSaid : Prop := wholeSignedUptoRow.holds Try.pinned (OpenSpec.upto wholeSignedSpec)

/-- 'intagliolaw03.FieldExponents', WHERE WHAT IT READS IS OF BULK AT MOST 1048576: true; the input reads as it did. -/
def fieldExponentsUptoRow : OpenClaim := { program := "yteaoegdmhoepiaa", sum := "dceea1a9453197b107effad200bdcc8fbb2cd49f845e09c26110c9cb4dd203bb", func := "intaglio/intagliolaw03.FieldExponents", spec := "fieldExponents", inPlace := ["math/bits.Add64"], apart := false, narrowed := true }
def FieldExponentsUptoSaid : Prop := fieldExponentsUptoRow.holds Try.pinned (OpenSpec.upto fieldExponentsSpec)

/-- 'intagliolaw03.FieldPowers', WHERE WHAT IT READS IS OF BULK AT MOST 1048576: true; the input reads as it did. -/
def fieldPowersUptoRow : OpenClaim := { program := "yteaoegdmhoepiaa", sum := "dceea1a9453197b107effad200bdcc8fbb2cd49f845e09c26110c9cb4dd203bb", func := "intaglio/intagliolaw03.FieldPowers", spec := "fieldPowers", inPlace := ["math/bits.Add64"], apart := false, narrowed := true }
def FieldPowersUptoSaid : Prop := fieldPowersUptoRow.holds Try.pinned (OpenSpec.upto fieldPowersSpec)

/-- 'intagliolaw03.FieldRules', WHERE WHAT IT READS IS OF BULK AT MOST 1048576: true; the input reads as it did. -/
def fieldRulesUptoRow : OpenClaim := { program := "yteaoegdmhoepiaa", sum := "dceea1a9453197b107effad200bdcc8fbb2cd49f845e09c26110c9cb4dd203bb", func := "intaglio/intagliolaw03.FieldRules", spec := "fieldRules", inPlace := ["math/bits.Add64"], apart := false, narrowed := true }
def FieldRulesUptoSaid : Prop := fieldRulesUptoRow.holds Try.pinned (OpenSpec.upto fieldRulesSpec)

/-- 'intagliolaw03.FieldRoots', WHERE WHAT IT READS IS OF BULK AT MOST 1048576: true; the input reads as it did. -/
def fieldRootsUptoRow : OpenClaim := { program := "yteaoegdmhoepiaa", sum := "dceea1a9453197b107effad200bdcc8fbb2cd49f845e09c26110c9cb4dd203bb", func := "intaglio/intagliolaw03.FieldRoots", spec := "fieldRoots", inPlace := ["math/bits.Add64"], apart := false, narrowed := true }
def FieldRootsUptoSaid : Prop := fieldRootsUptoRow.holds Try.pinned (OpenSpec.upto fieldRootsSpec)

/-- 'intagliolaw05.LadderClimbs', WHERE WHAT IT READS IS OF BULK AT MOST 1048576: true; the input reads as it did. -/
def ladderClimbsUptoRow : OpenClaim := { program := "yteaoegdmhoepiaa", sum := "dceea1a9453197b107effad200bdcc8fbb2cd49f845e09c26110c9cb4dd203bb", func := "intaglio/intagliolaw05.LadderClimbs", spec := "ladderClimbs", inPlace := ["math/bits.Add64"], apart := false, narrowed := true }
def LadderClimbsUptoSaid : Prop := ladderClimbsUptoRow.holds Try.pinned (OpenSpec.upto ladderClimbsSpec)

/-- 'intagliolaw05.LadderAgrees', WHERE WHAT IT READS IS OF BULK AT MOST 1048576: true; the input reads as it did. -/
def ladderAgreesUptoRow : OpenClaim := { program := "yteaoegdmhoepiaa", sum := "dceea1a9453197b107effad200bdcc8fbb2cd49f845e09c26110c9cb4dd203bb", func := "intaglio/intagliolaw05.LadderAgrees", spec := "ladderAgrees", inPlace := ["math/bits.Add64"], apart := false, narrowed := true }
def LadderAgreesUptoSaid : Prop := ladderAgreesUptoRow.holds Try.pinned (OpenSpec.upto ladderAgreesSpec)

/-- 'intagliolaw05.LadderMeets', WHERE WHAT IT READS IS OF BULK AT MOST 1048576: true; the input reads as it did. -/
def ladderMeetsUptoRow : OpenClaim := { program := "yteaoegdmhoepiaa", sum := "dceea1a9453197b107effad200bdcc8fbb2cd49f845e09c26110c9cb4dd203bb", func := "intaglio/intagliolaw05.LadderMeets", spec := "ladderMeets", inPlace := ["math/bits.Add64"], apart := false, narrowed := true }
def LadderMeetsUptoSaid : Prop := ladderMeetsUptoRow.holds Try.pinned (OpenSpec.upto ladderMeetsSpec)

/-- 'intagliolaw05.LadderThree', WHERE WHAT IT READS IS OF BULK AT MOST 1048576: true; the input reads as it did. -/
def ladderThreeUptoRow : OpenClaim := { program := "yteaoegdmhoepiaa", sum := "dceea1a9453197b107effad200bdcc8fbb2cd49f845e09c26110c9cb4dd203bb", func := "intaglio/intagliolaw05.LadderThree", spec := "ladderThree", inPlace := ["math/bits.Add64"], apart := false, narrowed := true }
def LadderThreeUptoSaid : Prop := ladderThreeUptoRow.holds Try.pinned (OpenSpec.upto ladderThreeSpec)

/-- 'intagliolaw05.LadderLow', WHERE WHAT IT READS IS OF BULK AT MOST 1048576: true; the input reads as it did. -/
def ladderLowUptoRow : OpenClaim := { program := "yteaoegdmhoepiaa", sum := "dceea1a9453197b107effad200bdcc8fbb2cd49f845e09c26110c9cb4dd203bb", func := "intaglio/intagliolaw05.LadderLow", spec := "ladderLow", inPlace := ["math/bits.Add64"], apart := false, narrowed := true }
def LadderLowUptoSaid : Prop := ladderLowUptoRow.holds Try.pinned (OpenSpec.upto ladderLowSpec)

end Rows
end Go.Proofs.Yteaoegdmhoepiaa

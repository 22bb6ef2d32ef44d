/-
  No cell of these rows narrows 'for every input' (looked for: loops, veiled, ifaces, maps, wideKeys, modest, calm, conditions, laid).
  DERIVED. THE GIVEN ROWS OF THIS SEAT. 12 by the template 'for every input the law returns true; each argument reads behind the call as it read before'; 0 by the template 'total and deterministic' (their statements: YtbejakkcdbhmaaaTotals.lean).
  GIVEN WITH THE SEED: the statements are not yours to turn. If you find one false, say at which input.
  Laid BY PROGRAM, IN A SANDBOX (cutbox-rows.mjs): the forced cells as the released guide's own fill.sh prints them over the translation 82d8d9539f1cf339… (all of the seat's roots in one cut). By AI agents, Wed Nov 11 2026. No macro, syntax, notation, axiom, sorry.
-/
import Derived.Test.YtbejakkcdbhmaaaChecked
import GoSem.Claim
import GoSem.ClaimJoined
import GoSem.ClaimMapViews
import Derived.JoinedTies
import Derived.KernelRfl
namespace Go.Proofs.Ytbejakkcdbhmaaa
/- THE CELL 'sum', in the pinned program and in every row, IS THE sha256 OF THE DUMP (.gsa) THAT YtbejakkcdbhmaaaProg.lean LOADS. Nothing in Lean hashes anything: it is a label: what it is worth is what the hold of that sum in a sandbox is worth. -/
noncomputable def Try.pinned : Pinned := { name := "ytbejakkcdbhmaaa", sum := "82d8d9539f1cf3399da5fca701be31a74a9da6f7020f176e546149e24b0b1878", checked := Try.checked }
namespace Rows
def none {H : Type} : Left H := { results := [], args := [] }

/-- 'laws.FnExactUniquenessFormula': WHATEVER THE INPUT: true; the input reads as it did. -/
def fnExactUniquenessFormulaSpec : ChangeSpec := { name := "fnExactUniquenessFormula", fn := fun _ => fun
  | [d1, d2, d3] => { results := [.lit (.bool true)], args := [d1, d2, d3] }
  | _ => none }
def fnExactUniquenessFormulaRow : OpenClaim := { program := "ytbejakkcdbhmaaa", sum := "82d8d9539f1cf3399da5fca701be31a74a9da6f7020f176e546149e24b0b1878", func := "loop.example/g01089/laws.FnExactUniquenessFormula", spec := "fnExactUniquenessFormula", unfollowed := true, recurses := true, apart := false }
def FnExactUniquenessFormulaSaid : Prop := fnExactUniquenessFormulaRow.holds Try.pinned (OpenSpec.ofChange fnExactUniquenessFormulaSpec)

/-- ITS FALSE NEIGHBOUR: 'it returns false'. Refute it at one input. -/
def fnExactUniquenessFormulaWrong : ChangeSpec := { name := "fnExactUniquenessFormula", fn := fun _ => fun
  | [d1, d2, d3] => { results := [.lit (.bool false)], args := [d1, d2, d3] }
  | _ => none }
def FnExactUniquenessFormulaWrongFalsely : Prop := fnExactUniquenessFormulaRow.holds Try.pinned (OpenSpec.ofChange fnExactUniquenessFormulaWrong)

/-- 'laws.FnExactCountSolutions': WHATEVER THE INPUT: true; the input reads as it did. -/
def fnExactCountSolutionsSpec : ChangeSpec := { name := "fnExactCountSolutions", fn := fun _ => fun
  | [d1, d2, d3, d4] => { results := [.lit (.bool true)], args := [d1, d2, d3, d4] }
  | _ => none }
def fnExactCountSolutionsRow : OpenClaim := { program := "ytbejakkcdbhmaaa", sum := "82d8d9539f1cf3399da5fca701be31a74a9da6f7020f176e546149e24b0b1878", func := "loop.example/g01089/laws.FnExactCountSolutions", spec := "fnExactCountSolutions", unfollowed := true, recurses := true, apart := false }
def FnExactCountSolutionsSaid : Prop := fnExactCountSolutionsRow.holds Try.pinned (OpenSpec.ofChange fnExactCountSolutionsSpec)

/-- ITS FALSE NEIGHBOUR: 'it returns false'. Refute it at one input. -/
def fnExactCountSolutionsWrong : ChangeSpec := { name := "fnExactCountSolutions", fn := fun _ => fun
  | [d1, d2, d3, d4] => { results := [.lit (.bool false)], args := [d1, d2, d3, d4] }
  | _ => none }
def FnExactCountSolutionsWrongFalsely : Prop := fnExactCountSolutionsRow.holds Try.pinned (OpenSpec.ofChange fnExactCountSolutionsWrong)

/-- 'laws.FnExactReplaceOuter': WHATEVER THE INPUT: true; the input reads as it did. -/
def fnExactReplaceOuterSpec : ChangeSpec := { name := "fnExactReplaceOuter", fn := fun _ => fun
  | [d1, d2, d3] => { results := [.lit (.bool true)], args := [d1, d2, d3] }
  | _ => none }
def fnExactReplaceOuterRow : OpenClaim := { program := "ytbejakkcdbhmaaa", sum := "82d8d9539f1cf3399da5fca701be31a74a9da6f7020f176e546149e24b0b1878", func := "loop.example/g01089/laws.FnExactReplaceOuter", spec := "fnExactReplaceOuter", unfollowed := true, recurses := true, apart := false }
def FnExactReplaceOuterSaid : Prop := fnExactReplaceOuterRow.holds Try.pinned (OpenSpec.ofChange fnExactReplaceOuterSpec)

/-- ITS FALSE NEIGHBOUR: 'it returns false'. Refute it at one input. -/
def fnExactReplaceOuterWrong : ChangeSpec := { name := "fnExactReplaceOuter", fn := fun _ => fun
  | [d1, d2, d3] => { results := [.lit (.bool false)], args := [d1, d2, d3] }
  | _ => none }
def FnExactReplaceOuterWrongFalsely : Prop := fnExactReplaceOuterRow.holds Try.pinned (OpenSpec.ofChange fnExactReplaceOuterWrong)

/-- 'laws.FnExactFixedPointTrace': WHATEVER THE INPUT: true; the input reads as it did. -/
def fnExactFixedPointTraceSpec : ChangeSpec := { name := "fnExactFixedPointTrace", fn := fun _ => fun
  | [d1, d2] => { results := [.lit (.bool true)], args := [d1, d2] }
  | _ => none }
def fnExactFixedPointTraceRow : OpenClaim := { program := "ytbejakkcdbhmaaa", sum := "82d8d9539f1cf3399da5fca701be31a74a9da6f7020f176e546149e24b0b1878", func := "loop.example/g01089/laws.FnExactFixedPointTrace", spec := "fnExactFixedPointTrace", unfollowed := true, recurses := true, apart := false }
def FnExactFixedPointTraceSaid : Prop := fnExactFixedPointTraceRow.holds Try.pinned (OpenSpec.ofChange fnExactFixedPointTraceSpec)

/-- ITS FALSE NEIGHBOUR: 'it returns false'. Refute it at one input. -/
def fnExactFixedPointTraceWrong : ChangeSpec := { name := "fnExactFixedPointTrace", fn := fun _ => fun
  | [d1, d2] => { results := [.lit (.bool false)], args := [d1, d2] }
  | _ => none }
def FnExactFixedPointTraceWrongFalsely : Prop := fnExactFixedPointTraceRow.holds Try.pinned (OpenSpec.ofChange fnExactFixedPointTraceWrong)

/-- 'laws.FnExactOuterParts': WHATEVER THE INPUT: true; the input reads as it did. -/
def fnExactOuterPartsSpec : ChangeSpec := { name := "fnExactOuterParts", fn := fun _ => fun
  | [d1, d2] => { results := [.lit (.bool true)], args := [d1, d2] }
  | _ => none }
def fnExactOuterPartsRow : OpenClaim := { program := "ytbejakkcdbhmaaa", sum := "82d8d9539f1cf3399da5fca701be31a74a9da6f7020f176e546149e24b0b1878", func := "loop.example/g01089/laws.FnExactOuterParts", spec := "fnExactOuterParts", unfollowed := true, recurses := true, apart := false }
def FnExactOuterPartsSaid : Prop := fnExactOuterPartsRow.holds Try.pinned (OpenSpec.ofChange fnExactOuterPartsSpec)

/-- ITS FALSE NEIGHBOUR: 'it returns false'. Refute it at one input. -/
def fnExactOuterPartsWrong : ChangeSpec := { name := "fnExactOuterParts", fn := fun _ => fun
  | [d1, d2] => { results := [.lit (.bool false)], args := [d1, d2] }
  | _ => none }
def FnExactOuterPartsWrongFalsely : Prop := fnExactOuterPartsRow.holds Try.pinned (OpenSpec.ofChange fnExactOuterPartsWrong)

/-- 'laws.FnExactFixedPointOf': WHATEVER THE INPUT: true; the input reads as it did. -/
def fnExactFixedPointOfSpec : ChangeSpec := { name := "fnExactFixedPointOf", fn := fun _ => fun
  | [d1, d2] => { results := [.lit (.bool true)], args := [d1, d2] }
  | _ => none }
def fnExactFixedPointOfRow : OpenClaim := { program := "ytbejakkcdbhmaaa", sum := "82d8d9539f1cf3399da5fca701be31a74a9da6f7020f176e546149e24b0b1878", func := "loop.example/g01089/laws.FnExactFixedPointOf", spec := "fnExactFixedPointOf", unfollowed := true, recurses := true, apart := false }
def FnExactFixedPointOfSaid : Prop := fnExactFixedPointOfRow.holds Try.pinned (OpenSpec.ofChange fnExactFixedPointOfSpec)

/-- ITS FALSE NEIGHBOUR: 'it returns false'. Refute it at one input. -/
def fnExactFixedPointOfWrong : ChangeSpec := { name := "fnExactFixedPointOf", fn := fun _ => fun
  | [d1, d2] => { results := [.lit (.bool false)], args := [d1, d2] }
  | _ => none }
def FnExactFixedPointOfWrongFalsely : Prop := fnExactFixedPointOfRow.holds Try.pinned (OpenSpec.ofChange fnExactFixedPointOfWrong)

/-- 'laws.FnExactLetterlessNormal': WHATEVER THE INPUT: true; the input reads as it did. -/
def fnExactLetterlessNormalSpec : ChangeSpec := { name := "fnExactLetterlessNormal", fn := fun _ => fun
  | [d] => { results := [.lit (.bool true)], args := [d] }
  | _ => none }
def fnExactLetterlessNormalRow : OpenClaim := { program := "ytbejakkcdbhmaaa", sum := "82d8d9539f1cf3399da5fca701be31a74a9da6f7020f176e546149e24b0b1878", func := "loop.example/g01089/laws.FnExactLetterlessNormal", spec := "fnExactLetterlessNormal", unfollowed := true, recurses := true, apart := false }
def FnExactLetterlessNormalSaid : Prop := fnExactLetterlessNormalRow.holds Try.pinned (OpenSpec.ofChange fnExactLetterlessNormalSpec)

/-- ITS FALSE NEIGHBOUR: 'it returns false'. Refute it at one input. -/
def fnExactLetterlessNormalWrong : ChangeSpec := { name := "fnExactLetterlessNormal", fn := fun _ => fun
  | [d] => { results := [.lit (.bool false)], args := [d] }
  | _ => none }
def FnExactLetterlessNormalWrongFalsely : Prop := fnExactLetterlessNormalRow.holds Try.pinned (OpenSpec.ofChange fnExactLetterlessNormalWrong)

/-- 'laws.FnExactLetterlessFixedPoint': WHATEVER THE INPUT: true; the input reads as it did. -/
def fnExactLetterlessFixedPointSpec : ChangeSpec := { name := "fnExactLetterlessFixedPoint", fn := fun _ => fun
  | [d1, d2] => { results := [.lit (.bool true)], args := [d1, d2] }
  | _ => none }
def fnExactLetterlessFixedPointRow : OpenClaim := { program := "ytbejakkcdbhmaaa", sum := "82d8d9539f1cf3399da5fca701be31a74a9da6f7020f176e546149e24b0b1878", func := "loop.example/g01089/laws.FnExactLetterlessFixedPoint", spec := "fnExactLetterlessFixedPoint", unfollowed := true, recurses := true, apart := false }
def FnExactLetterlessFixedPointSaid : Prop := fnExactLetterlessFixedPointRow.holds Try.pinned (OpenSpec.ofChange fnExactLetterlessFixedPointSpec)

/-- ITS FALSE NEIGHBOUR: 'it returns false'. Refute it at one input. -/
def fnExactLetterlessFixedPointWrong : ChangeSpec := { name := "fnExactLetterlessFixedPoint", fn := fun _ => fun
  | [d1, d2] => { results := [.lit (.bool false)], args := [d1, d2] }
  | _ => none }
def FnExactLetterlessFixedPointWrongFalsely : Prop := fnExactLetterlessFixedPointRow.holds Try.pinned (OpenSpec.ofChange fnExactLetterlessFixedPointWrong)

/-- 'laws.FnExactMeetTraces': WHATEVER THE INPUT: true; the input reads as it did. -/
def fnExactMeetTracesSpec : ChangeSpec := { name := "fnExactMeetTraces", fn := fun _ => fun
  | [d1, d2] => { results := [.lit (.bool true)], args := [d1, d2] }
  | _ => none }
def fnExactMeetTracesRow : OpenClaim := { program := "ytbejakkcdbhmaaa", sum := "82d8d9539f1cf3399da5fca701be31a74a9da6f7020f176e546149e24b0b1878", func := "loop.example/g01089/laws.FnExactMeetTraces", spec := "fnExactMeetTraces", unfollowed := true, recurses := true, apart := false }
def FnExactMeetTracesSaid : Prop := fnExactMeetTracesRow.holds Try.pinned (OpenSpec.ofChange fnExactMeetTracesSpec)

/-- ITS FALSE NEIGHBOUR: 'it returns false'. Refute it at one input. -/
def fnExactMeetTracesWrong : ChangeSpec := { name := "fnExactMeetTraces", fn := fun _ => fun
  | [d1, d2] => { results := [.lit (.bool false)], args := [d1, d2] }
  | _ => none }
def FnExactMeetTracesWrongFalsely : Prop := fnExactMeetTracesRow.holds Try.pinned (OpenSpec.ofChange fnExactMeetTracesWrong)

/-- 'laws.FnExactSolveOnFrame': WHATEVER THE INPUT: true; the input reads as it did. -/
def fnExactSolveOnFrameSpec : ChangeSpec := { name := "fnExactSolveOnFrame", fn := fun _ => fun
  | [d1, d2, d3, d4] => { results := [.lit (.bool true)], args := [d1, d2, d3, d4] }
  | _ => none }
def fnExactSolveOnFrameRow : OpenClaim := { program := "ytbejakkcdbhmaaa", sum := "82d8d9539f1cf3399da5fca701be31a74a9da6f7020f176e546149e24b0b1878", func := "loop.example/g01089/laws.FnExactSolveOnFrame", spec := "fnExactSolveOnFrame", unfollowed := true, recurses := true, apart := false }
def FnExactSolveOnFrameSaid : Prop := fnExactSolveOnFrameRow.holds Try.pinned (OpenSpec.ofChange fnExactSolveOnFrameSpec)

/-- ITS FALSE NEIGHBOUR: 'it returns false'. Refute it at one input. -/
def fnExactSolveOnFrameWrong : ChangeSpec := { name := "fnExactSolveOnFrame", fn := fun _ => fun
  | [d1, d2, d3, d4] => { results := [.lit (.bool false)], args := [d1, d2, d3, d4] }
  | _ => none }
def FnExactSolveOnFrameWrongFalsely : Prop := fnExactSolveOnFrameRow.holds Try.pinned (OpenSpec.ofChange fnExactSolveOnFrameWrong)

/-- 'laws.FnExactBisimulationClasses': WHATEVER THE INPUT: true; the input reads as it did. -/
def fnExactBisimulationClassesSpec : ChangeSpec := { name := "fnExactBisimulationClasses", fn := fun _ => fun
  | [d] => { results := [.lit (.bool true)], args := [d] }
  | _ => none }
def fnExactBisimulationClassesRow : OpenClaim := { program := "ytbejakkcdbhmaaa", sum := "82d8d9539f1cf3399da5fca701be31a74a9da6f7020f176e546149e24b0b1878", func := "loop.example/g01089/laws.FnExactBisimulationClasses", spec := "fnExactBisimulationClasses", unfollowed := true, recurses := true, apart := false }
def FnExactBisimulationClassesSaid : Prop := fnExactBisimulationClassesRow.holds Try.pinned (OpenSpec.ofChange fnExactBisimulationClassesSpec)

/-- ITS FALSE NEIGHBOUR: 'it returns false'. Refute it at one input. -/
def fnExactBisimulationClassesWrong : ChangeSpec := { name := "fnExactBisimulationClasses", fn := fun _ => fun
  | [d] => { results := [.lit (.bool false)], args := [d] }
  | _ => none }
def FnExactBisimulationClassesWrongFalsely : Prop := fnExactBisimulationClassesRow.holds Try.pinned (OpenSpec.ofChange fnExactBisimulationClassesWrong)

/-- 'laws.FnExactQuotientModel': WHATEVER THE INPUT: true; the input reads as it did. -/
def fnExactQuotientModelSpec : ChangeSpec := { name := "fnExactQuotientModel", fn := fun _ => fun
  | [d] => { results := [.lit (.bool true)], args := [d] }
  | _ => none }
def fnExactQuotientModelRow : OpenClaim := { program := "ytbejakkcdbhmaaa", sum := "82d8d9539f1cf3399da5fca701be31a74a9da6f7020f176e546149e24b0b1878", func := "loop.example/g01089/laws.FnExactQuotientModel", spec := "fnExactQuotientModel", unfollowed := true, recurses := true, apart := false }
def FnExactQuotientModelSaid : Prop := fnExactQuotientModelRow.holds Try.pinned (OpenSpec.ofChange fnExactQuotientModelSpec)

/-- ITS FALSE NEIGHBOUR: 'it returns false'. Refute it at one input. -/
def fnExactQuotientModelWrong : ChangeSpec := { name := "fnExactQuotientModel", fn := fun _ => fun
  | [d] => { results := [.lit (.bool false)], args := [d] }
  | _ => none }
def FnExactQuotientModelWrongFalsely : Prop := fnExactQuotientModelRow.holds Try.pinned (OpenSpec.ofChange fnExactQuotientModelWrong)

/- THE SECOND FORM. 'bulk': how many values and letters a reading holds, each counted each time it is reached (what is shared counts as often as it is met; a slice's spare places count too). A statement '..UptoSaid' is the law's where the arguments, and the package variables that the reading takes, are together of bulk at most 1048576: NARROWER than '..Said'. Prove '..Said' where nothing that the law and all that it calls make is longer than what came in: it says more and counts as full. Else prove '..UptoSaid'. A law counts once. -/
mutual
def uptoBulk {H : Type} : DataW H → Nat
  | .lit (.string bytes) => bytes.length + 1
  | .lit _ => 1
  | .nil => 1
  | .ptr d => uptoBulk d + 1
  | .slice elems spare => uptoBulkAll elems + uptoBulkAll spare + 1
  | .agg parts => uptoBulkAll parts + 1
  | .iface _ d => uptoBulk d + 1
  | .map entries => uptoBulkEntries entries + 1
  | .held _ => 1
def uptoBulkAll {H : Type} : List (DataW H) → Nat
  | [] => 0
  | d :: r => uptoBulk d + uptoBulkAll r
def uptoBulkEntries {H : Type} : List (Lit × DataW H) → Nat
  | [] => 0
  | x :: r => uptoBulkEntry x + uptoBulkEntries r
def uptoBulkEntry {H : Type} : Lit × DataW H → Nat
  | (.string bytes, d) => bytes.length + uptoBulk d + 1
  | (_, d) => uptoBulk d + 1
 end
def uptoSmall : (H : Type) → List (DataW H) → Bool := fun _ ds => decide (uptoBulkAll ds ≤ 1048576)
def OpenSpec.upto (s : _root_.Go.ChangeSpec) : _root_.Go.OpenSpec := { _root_.Go.OpenSpec.ofChange s with cond := some uptoSmall }

/-- 'laws.FnExactUniquenessFormula', WHERE WHAT IT READS IS OF BULK AT MOST 1048576: true; the input reads as it did. -/
def fnExactUniquenessFormulaUptoRow : OpenClaim := { program := "ytbejakkcdbhmaaa", sum := "82d8d9539f1cf3399da5fca701be31a74a9da6f7020f176e546149e24b0b1878", func := "loop.example/g01089/laws.FnExactUniquenessFormula", spec := "fnExactUniquenessFormula", unfollowed := true, recurses := true, apart := false, narrowed := true }
def FnExactUniquenessFormulaUptoSaid : Prop := fnExactUniquenessFormulaUptoRow.holds Try.pinned (OpenSpec.upto fnExactUniquenessFormulaSpec)

/-- 'laws.FnExactCountSolutions', WHERE WHAT IT READS IS OF BULK AT MOST 1048576: true; the input reads as it did. -/
def fnExactCountSolutionsUptoRow : OpenClaim := { program := "ytbejakkcdbhmaaa", sum := "82d8d9539f1cf3399da5fca701be31a74a9da6f7020f176e546149e24b0b1878", func := "loop.example/g01089/laws.FnExactCountSolutions", spec := "fnExactCountSolutions", unfollowed := true, recurses := true, apart := false, narrowed := true }
def FnExactCountSolutionsUptoSaid : Prop := fnExactCountSolutionsUptoRow.holds Try.pinned (OpenSpec.upto fnExactCountSolutionsSpec)

/-- 'laws.FnExactReplaceOuter', WHERE WHAT IT READS IS OF BULK AT MOST 1048576: true; the input reads as it did. -/
def fnExactReplaceOuterUptoRow : OpenClaim := { program := "ytbejakkcdbhmaaa", sum := "82d8d9539f1cf3399da5fca701be31a74a9da6f7020f176e546149e24b0b1878", func := "loop.example/g01089/laws.FnExactReplaceOuter", spec := "fnExactReplaceOuter", unfollowed := true, recurses := true, apart := false, narrowed := true }
def FnExactReplaceOuterUptoSaid : Prop := fnExactReplaceOuterUptoRow.holds Try.pinned (OpenSpec.upto fnExactReplaceOuterSpec)

/-- 'laws.FnExactFixedPointTrace', WHERE WHAT IT READS IS OF BULK AT MOST 1048576: true; the input reads as it did. -/
def fnExactFixedPointTraceUptoRow : OpenClaim := { program := "ytbejakkcdbhmaaa", sum := "82d8d9539f1cf3399da5fca701be31a74a9da6f7020f176e546149e24b0b1878", func := "loop.example/g01089/laws.FnExactFixedPointTrace", spec := "fnExactFixedPointTrace", unfollowed := true, recurses := true, apart := false, narrowed := true }
def FnExactFixedPointTraceUptoSaid : Prop := fnExactFixedPointTraceUptoRow.holds Try.pinned (OpenSpec.upto fnExactFixedPointTraceSpec)

/-- 'laws.FnExactOuterParts', WHERE WHAT IT READS IS OF BULK AT MOST 1048576: true; the input reads as it did. -/
def fnExactOuterPartsUptoRow : OpenClaim := { program := "ytbejakkcdbhmaaa", sum := "82d8d9539f1cf3399da5fca701be31a74a9da6f7020f176e546149e24b0b1878", func := "loop.example/g01089/laws.FnExactOuterParts", spec := "fnExactOuterParts", unfollowed := true, recurses := true, apart := false, narrowed := true }
def FnExactOuterPartsUptoSaid : Prop := fnExactOuterPartsUptoRow.holds Try.pinned (OpenSpec.upto fnExactOuterPartsSpec)

/-- 'laws.FnExactFixedPointOf', WHERE WHAT IT READS IS OF BULK AT MOST 1048576: true; the input reads as it did. -/
def fnExactFixedPointOfUptoRow : OpenClaim := { program := "ytbejakkcdbhmaaa", sum := "82d8d9539f1cf3399da5fca701be31a74a9da6f7020f176e546149e24b0b1878", func := "loop.example/g01089/laws.FnExactFixedPointOf", spec := "fnExactFixedPointOf", unfollowed := true, recurses := true, apart := false, narrowed := true }
def FnExactFixedPointOfUptoSaid : Prop := fnExactFixedPointOfUptoRow.holds Try.pinned (OpenSpec.upto fnExactFixedPointOfSpec)

/-- 'laws.FnExactLetterlessNormal', WHERE WHAT IT READS IS OF BULK AT MOST 1048576: true; the input reads as it did. -/
def fnExactLetterlessNormalUptoRow : OpenClaim := { program := "ytbejakkcdbhmaaa", sum := "82d8d9539f1cf3399da5fca701be31a74a9da6f7020f176e546149e24b0b1878", func := "loop.example/g01089/laws.FnExactLetterlessNormal", spec := "fnExactLetterlessNormal", unfollowed := true, recurses := true, apart := false, narrowed := true }
def FnExactLetterlessNormalUptoSaid : Prop := fnExactLetterlessNormalUptoRow.holds Try.pinned (OpenSpec.upto fnExactLetterlessNormalSpec)

/-- 'laws.FnExactLetterlessFixedPoint', WHERE WHAT IT READS IS OF BULK AT MOST 1048576: true; the input reads as it did. -/
def fnExactLetterlessFixedPointUptoRow : OpenClaim := { program := "ytbejakkcdbhmaaa", sum := "82d8d9539f1cf3399da5fca701be31a74a9da6f7020f176e546149e24b0b1878", func := "loop.example/g01089/laws.FnExactLetterlessFixedPoint", spec := "fnExactLetterlessFixedPoint", unfollowed := true, recurses := true, apart := false, narrowed := true }
def FnExactLetterlessFixedPointUptoSaid : Prop := fnExactLetterlessFixedPointUptoRow.holds Try.pinned (OpenSpec.upto fnExactLetterlessFixedPointSpec)

/-- 'laws.FnExactMeetTraces', WHERE WHAT IT READS IS OF BULK AT MOST 1048576: true; the input reads as it did. -/
def fnExactMeetTracesUptoRow : OpenClaim := { program := "ytbejakkcdbhmaaa", sum := "82d8d9539f1cf3399da5fca701be31a74a9da6f7020f176e546149e24b0b1878", func := "loop.example/g01089/laws.FnExactMeetTraces", spec := "fnExactMeetTraces", unfollowed := true, recurses := true, apart := false, narrowed := true }
def FnExactMeetTracesUptoSaid : Prop := fnExactMeetTracesUptoRow.holds Try.pinned (OpenSpec.upto fnExactMeetTracesSpec)

/-- 'laws.FnExactSolveOnFrame', WHERE WHAT IT READS IS OF BULK AT MOST 1048576: true; the input reads as it did. -/
def fnExactSolveOnFrameUptoRow : OpenClaim := { program := "ytbejakkcdbhmaaa", sum := "82d8d9539f1cf3399da5fca701be31a74a9da6f7020f176e546149e24b0b1878", func := "loop.example/g01089/laws.FnExactSolveOnFrame", spec := "fnExactSolveOnFrame", unfollowed := true, recurses := true, apart := false, narrowed := true }
def FnExactSolveOnFrameUptoSaid : Prop := fnExactSolveOnFrameUptoRow.holds Try.pinned (OpenSpec.upto fnExactSolveOnFrameSpec)

/-- 'laws.FnExactBisimulationClasses', WHERE WHAT IT READS IS OF BULK AT MOST 1048576: true; the input reads as it did. -/
def fnExactBisimulationClassesUptoRow : OpenClaim := { program := "ytbejakkcdbhmaaa", sum := "82d8d9539f1cf3399da5fca701be31a74a9da6f7020f176e546149e24b0b1878", func := "loop.example/g01089/laws.FnExactBisimulationClasses", spec := "fnExactBisimulationClasses", unfollowed := true, recurses := true, apart := false, narrowed := true }
def FnExactBisimulationClassesUptoSaid : Prop := fnExactBisimulationClassesUptoRow.holds Try.pinned (OpenSpec.upto fnExactBisimulationClassesSpec)

/-- 'laws.FnExactQuotientModel', WHERE WHAT IT READS IS OF BULK AT MOST 1048576: true; the input reads as it did. -/
def fnExactQuotientModelUptoRow : OpenClaim := { program := "ytbejakkcdbhmaaa", sum := "82d8d9539f1cf3399da5fca701be31a74a9da6f7020f176e546149e24b0b1878", func := "loop.example/g01089/laws.FnExactQuotientModel", spec := "fnExactQuotientModel", unfollowed := true, recurses := true, apart := false, narrowed := true }
def FnExactQuotientModelUptoSaid : Prop := fnExactQuotientModelUptoRow.holds Try.pinned (OpenSpec.upto fnExactQuotientModelSpec)

end Rows
end Go.Proofs.Ytbejakkcdbhmaaa

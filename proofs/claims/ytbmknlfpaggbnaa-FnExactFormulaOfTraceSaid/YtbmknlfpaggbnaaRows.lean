/-
  No cell of these rows narrows 'for every input' (looked for: loops, veiled, ifaces, maps, wideKeys, modest, calm, conditions, laid).
  DERIVED. THE GIVEN ROWS OF THIS SEAT. 12 by the template 'for every input the law returns true; each argument reads behind the call as it read before'; 0 by the template 'total and deterministic' (their statements: YtbmknlfpaggbnaaTotals.lean).
  GIVEN WITH THE SEED: the statements are not yours to turn. If you find one false, say at which input.
  Laid BY PROGRAM, IN A SANDBOX (cutbox-rows.mjs): the forced cells as the released guide's own fill.sh prints them over the translation 0fcce9040eefe3bb… (all of the seat's roots in one cut). By AI agents, Wed Nov 11 2026. No macro, syntax, notation, axiom, sorry.
-/
import Derived.Test.YtbmknlfpaggbnaaChecked
import GoSem.Claim
import GoSem.ClaimJoined
import GoSem.ClaimMapViews
import Derived.JoinedTies
import Derived.KernelRfl
namespace Go.Proofs.Ytbmknlfpaggbnaa
/- THE CELL 'sum', in the pinned program and in every row, IS THE sha256 OF THE DUMP (.gsa) THAT YtbmknlfpaggbnaaProg.lean LOADS. Nothing in Lean hashes anything: it is a label: what it is worth is what the hold of that sum in a sandbox is worth. -/
noncomputable def Try.pinned : Pinned := { name := "ytbmknlfpaggbnaa", sum := "0fcce9040eefe3bb088d2ac76fa3d968e34d7d0efee71511cb5202f62e37a9ae", checked := Try.checked }
namespace Rows
def none {H : Type} : Left H := { results := [], args := [] }

/-- 'laws.FnExactChainFrame': WHATEVER THE INPUT: true; the input reads as it did. -/
def fnExactChainFrameSpec : ChangeSpec := { name := "fnExactChainFrame", fn := fun _ => fun
  | [d] => { results := [.lit (.bool true)], args := [d] }
  | _ => none }
def fnExactChainFrameRow : OpenClaim := { program := "ytbmknlfpaggbnaa", sum := "0fcce9040eefe3bb088d2ac76fa3d968e34d7d0efee71511cb5202f62e37a9ae", func := "loop.example/g01089/laws.FnExactChainFrame", spec := "fnExactChainFrame", apart := false }
def FnExactChainFrameSaid : Prop := fnExactChainFrameRow.holds Try.pinned (OpenSpec.ofChange fnExactChainFrameSpec)

/-- ITS FALSE NEIGHBOUR: 'it returns false'. Refute it at one input. -/
def fnExactChainFrameWrong : ChangeSpec := { name := "fnExactChainFrame", fn := fun _ => fun
  | [d] => { results := [.lit (.bool false)], args := [d] }
  | _ => none }
def FnExactChainFrameWrongFalsely : Prop := fnExactChainFrameRow.holds Try.pinned (OpenSpec.ofChange fnExactChainFrameWrong)

/-- 'laws.FnExactComplementTrace': WHATEVER THE INPUT: true; the input reads as it did. -/
def fnExactComplementTraceSpec : ChangeSpec := { name := "fnExactComplementTrace", fn := fun _ => fun
  | [d] => { results := [.lit (.bool true)], args := [d] }
  | _ => none }
def fnExactComplementTraceRow : OpenClaim := { program := "ytbmknlfpaggbnaa", sum := "0fcce9040eefe3bb088d2ac76fa3d968e34d7d0efee71511cb5202f62e37a9ae", func := "loop.example/g01089/laws.FnExactComplementTrace", spec := "fnExactComplementTrace", apart := false }
def FnExactComplementTraceSaid : Prop := fnExactComplementTraceRow.holds Try.pinned (OpenSpec.ofChange fnExactComplementTraceSpec)

/-- ITS FALSE NEIGHBOUR: 'it returns false'. Refute it at one input. -/
def fnExactComplementTraceWrong : ChangeSpec := { name := "fnExactComplementTrace", fn := fun _ => fun
  | [d] => { results := [.lit (.bool false)], args := [d] }
  | _ => none }
def FnExactComplementTraceWrongFalsely : Prop := fnExactComplementTraceRow.holds Try.pinned (OpenSpec.ofChange fnExactComplementTraceWrong)

/-- 'laws.FnExactIsLetterless': WHATEVER THE INPUT: true; the input reads as it did. -/
def fnExactIsLetterlessSpec : ChangeSpec := { name := "fnExactIsLetterless", fn := fun _ => fun
  | [d] => { results := [.lit (.bool true)], args := [d] }
  | _ => none }
def fnExactIsLetterlessRow : OpenClaim := { program := "ytbmknlfpaggbnaa", sum := "0fcce9040eefe3bb088d2ac76fa3d968e34d7d0efee71511cb5202f62e37a9ae", func := "loop.example/g01089/laws.FnExactIsLetterless", spec := "fnExactIsLetterless", unfollowed := true, recurses := true, apart := false }
def FnExactIsLetterlessSaid : Prop := fnExactIsLetterlessRow.holds Try.pinned (OpenSpec.ofChange fnExactIsLetterlessSpec)

/-- ITS FALSE NEIGHBOUR: 'it returns false'. Refute it at one input. -/
def fnExactIsLetterlessWrong : ChangeSpec := { name := "fnExactIsLetterless", fn := fun _ => fun
  | [d] => { results := [.lit (.bool false)], args := [d] }
  | _ => none }
def FnExactIsLetterlessWrongFalsely : Prop := fnExactIsLetterlessRow.holds Try.pinned (OpenSpec.ofChange fnExactIsLetterlessWrong)

/-- 'laws.FnExactBoxTrace': WHATEVER THE INPUT: true; the input reads as it did. -/
def fnExactBoxTraceSpec : ChangeSpec := { name := "fnExactBoxTrace", fn := fun _ => fun
  | [d] => { results := [.lit (.bool true)], args := [d] }
  | _ => none }
def fnExactBoxTraceRow : OpenClaim := { program := "ytbmknlfpaggbnaa", sum := "0fcce9040eefe3bb088d2ac76fa3d968e34d7d0efee71511cb5202f62e37a9ae", func := "loop.example/g01089/laws.FnExactBoxTrace", spec := "fnExactBoxTrace", apart := false }
def FnExactBoxTraceSaid : Prop := fnExactBoxTraceRow.holds Try.pinned (OpenSpec.ofChange fnExactBoxTraceSpec)

/-- ITS FALSE NEIGHBOUR: 'it returns false'. Refute it at one input. -/
def fnExactBoxTraceWrong : ChangeSpec := { name := "fnExactBoxTrace", fn := fun _ => fun
  | [d] => { results := [.lit (.bool false)], args := [d] }
  | _ => none }
def FnExactBoxTraceWrongFalsely : Prop := fnExactBoxTraceRow.holds Try.pinned (OpenSpec.ofChange fnExactBoxTraceWrong)

/-- 'laws.FnExactRankFormula': WHATEVER THE INPUT: true; the input reads as it did. -/
def fnExactRankFormulaSpec : ChangeSpec := { name := "fnExactRankFormula", fn := fun _ => fun
  | [d] => { results := [.lit (.bool true)], args := [d] }
  | _ => none }
def fnExactRankFormulaRow : OpenClaim := { program := "ytbmknlfpaggbnaa", sum := "0fcce9040eefe3bb088d2ac76fa3d968e34d7d0efee71511cb5202f62e37a9ae", func := "loop.example/g01089/laws.FnExactRankFormula", spec := "fnExactRankFormula", apart := false }
def FnExactRankFormulaSaid : Prop := fnExactRankFormulaRow.holds Try.pinned (OpenSpec.ofChange fnExactRankFormulaSpec)

/-- ITS FALSE NEIGHBOUR: 'it returns false'. Refute it at one input. -/
def fnExactRankFormulaWrong : ChangeSpec := { name := "fnExactRankFormula", fn := fun _ => fun
  | [d] => { results := [.lit (.bool false)], args := [d] }
  | _ => none }
def FnExactRankFormulaWrongFalsely : Prop := fnExactRankFormulaRow.holds Try.pinned (OpenSpec.ofChange fnExactRankFormulaWrong)

/-- 'laws.FnExactIsTrueAtRank': WHATEVER THE INPUT: true; the input reads as it did. -/
def fnExactIsTrueAtRankSpec : ChangeSpec := { name := "fnExactIsTrueAtRank", fn := fun _ => fun
  | [d1, d2] => { results := [.lit (.bool true)], args := [d1, d2] }
  | _ => none }
def fnExactIsTrueAtRankRow : OpenClaim := { program := "ytbmknlfpaggbnaa", sum := "0fcce9040eefe3bb088d2ac76fa3d968e34d7d0efee71511cb5202f62e37a9ae", func := "loop.example/g01089/laws.FnExactIsTrueAtRank", spec := "fnExactIsTrueAtRank", unfollowed := true, recurses := true, apart := false }
def FnExactIsTrueAtRankSaid : Prop := fnExactIsTrueAtRankRow.holds Try.pinned (OpenSpec.ofChange fnExactIsTrueAtRankSpec)

/-- ITS FALSE NEIGHBOUR: 'it returns false'. Refute it at one input. -/
def fnExactIsTrueAtRankWrong : ChangeSpec := { name := "fnExactIsTrueAtRank", fn := fun _ => fun
  | [d1, d2] => { results := [.lit (.bool false)], args := [d1, d2] }
  | _ => none }
def FnExactIsTrueAtRankWrongFalsely : Prop := fnExactIsTrueAtRankRow.holds Try.pinned (OpenSpec.ofChange fnExactIsTrueAtRankWrong)

/-- 'laws.FnExactAreLetterlessEqual': WHATEVER THE INPUT: true; the input reads as it did. -/
def fnExactAreLetterlessEqualSpec : ChangeSpec := { name := "fnExactAreLetterlessEqual", fn := fun _ => fun
  | [d1, d2] => { results := [.lit (.bool true)], args := [d1, d2] }
  | _ => none }
def fnExactAreLetterlessEqualRow : OpenClaim := { program := "ytbmknlfpaggbnaa", sum := "0fcce9040eefe3bb088d2ac76fa3d968e34d7d0efee71511cb5202f62e37a9ae", func := "loop.example/g01089/laws.FnExactAreLetterlessEqual", spec := "fnExactAreLetterlessEqual", unfollowed := true, recurses := true, apart := false }
def FnExactAreLetterlessEqualSaid : Prop := fnExactAreLetterlessEqualRow.holds Try.pinned (OpenSpec.ofChange fnExactAreLetterlessEqualSpec)

/-- ITS FALSE NEIGHBOUR: 'it returns false'. Refute it at one input. -/
def fnExactAreLetterlessEqualWrong : ChangeSpec := { name := "fnExactAreLetterlessEqual", fn := fun _ => fun
  | [d1, d2] => { results := [.lit (.bool false)], args := [d1, d2] }
  | _ => none }
def FnExactAreLetterlessEqualWrongFalsely : Prop := fnExactAreLetterlessEqualRow.holds Try.pinned (OpenSpec.ofChange fnExactAreLetterlessEqualWrong)

/-- 'laws.FnExactIsLetterlessTheorem': WHATEVER THE INPUT: true; the input reads as it did. -/
def fnExactIsLetterlessTheoremSpec : ChangeSpec := { name := "fnExactIsLetterlessTheorem", fn := fun _ => fun
  | [d] => { results := [.lit (.bool true)], args := [d] }
  | _ => none }
def fnExactIsLetterlessTheoremRow : OpenClaim := { program := "ytbmknlfpaggbnaa", sum := "0fcce9040eefe3bb088d2ac76fa3d968e34d7d0efee71511cb5202f62e37a9ae", func := "loop.example/g01089/laws.FnExactIsLetterlessTheorem", spec := "fnExactIsLetterlessTheorem", unfollowed := true, recurses := true, apart := false }
def FnExactIsLetterlessTheoremSaid : Prop := fnExactIsLetterlessTheoremRow.holds Try.pinned (OpenSpec.ofChange fnExactIsLetterlessTheoremSpec)

/-- ITS FALSE NEIGHBOUR: 'it returns false'. Refute it at one input. -/
def fnExactIsLetterlessTheoremWrong : ChangeSpec := { name := "fnExactIsLetterlessTheorem", fn := fun _ => fun
  | [d] => { results := [.lit (.bool false)], args := [d] }
  | _ => none }
def FnExactIsLetterlessTheoremWrongFalsely : Prop := fnExactIsLetterlessTheoremRow.holds Try.pinned (OpenSpec.ofChange fnExactIsLetterlessTheoremWrong)

/-- 'laws.FnExactIsTrueSentence': WHATEVER THE INPUT: true; the input reads as it did. -/
def fnExactIsTrueSentenceSpec : ChangeSpec := { name := "fnExactIsTrueSentence", fn := fun _ => fun
  | [d] => { results := [.lit (.bool true)], args := [d] }
  | _ => none }
def fnExactIsTrueSentenceRow : OpenClaim := { program := "ytbmknlfpaggbnaa", sum := "0fcce9040eefe3bb088d2ac76fa3d968e34d7d0efee71511cb5202f62e37a9ae", func := "loop.example/g01089/laws.FnExactIsTrueSentence", spec := "fnExactIsTrueSentence", unfollowed := true, recurses := true, apart := false }
def FnExactIsTrueSentenceSaid : Prop := fnExactIsTrueSentenceRow.holds Try.pinned (OpenSpec.ofChange fnExactIsTrueSentenceSpec)

/-- ITS FALSE NEIGHBOUR: 'it returns false'. Refute it at one input. -/
def fnExactIsTrueSentenceWrong : ChangeSpec := { name := "fnExactIsTrueSentence", fn := fun _ => fun
  | [d] => { results := [.lit (.bool false)], args := [d] }
  | _ => none }
def FnExactIsTrueSentenceWrongFalsely : Prop := fnExactIsTrueSentenceRow.holds Try.pinned (OpenSpec.ofChange fnExactIsTrueSentenceWrong)

/-- 'laws.FnExactFirstFalseRank': WHATEVER THE INPUT: true; the input reads as it did. -/
def fnExactFirstFalseRankSpec : ChangeSpec := { name := "fnExactFirstFalseRank", fn := fun _ => fun
  | [d] => { results := [.lit (.bool true)], args := [d] }
  | _ => none }
def fnExactFirstFalseRankRow : OpenClaim := { program := "ytbmknlfpaggbnaa", sum := "0fcce9040eefe3bb088d2ac76fa3d968e34d7d0efee71511cb5202f62e37a9ae", func := "loop.example/g01089/laws.FnExactFirstFalseRank", spec := "fnExactFirstFalseRank", unfollowed := true, recurses := true, apart := false }
def FnExactFirstFalseRankSaid : Prop := fnExactFirstFalseRankRow.holds Try.pinned (OpenSpec.ofChange fnExactFirstFalseRankSpec)

/-- ITS FALSE NEIGHBOUR: 'it returns false'. Refute it at one input. -/
def fnExactFirstFalseRankWrong : ChangeSpec := { name := "fnExactFirstFalseRank", fn := fun _ => fun
  | [d] => { results := [.lit (.bool false)], args := [d] }
  | _ => none }
def FnExactFirstFalseRankWrongFalsely : Prop := fnExactFirstFalseRankRow.holds Try.pinned (OpenSpec.ofChange fnExactFirstFalseRankWrong)

/-- 'laws.FnExactFormulaOfTrace': WHATEVER THE INPUT: true; the input reads as it did. -/
def fnExactFormulaOfTraceSpec : ChangeSpec := { name := "fnExactFormulaOfTrace", fn := fun _ => fun
  | [d] => { results := [.lit (.bool true)], args := [d] }
  | _ => none }
def fnExactFormulaOfTraceRow : OpenClaim := { program := "ytbmknlfpaggbnaa", sum := "0fcce9040eefe3bb088d2ac76fa3d968e34d7d0efee71511cb5202f62e37a9ae", func := "loop.example/g01089/laws.FnExactFormulaOfTrace", spec := "fnExactFormulaOfTrace", apart := false }
def FnExactFormulaOfTraceSaid : Prop := fnExactFormulaOfTraceRow.holds Try.pinned (OpenSpec.ofChange fnExactFormulaOfTraceSpec)

/-- ITS FALSE NEIGHBOUR: 'it returns false'. Refute it at one input. -/
def fnExactFormulaOfTraceWrong : ChangeSpec := { name := "fnExactFormulaOfTrace", fn := fun _ => fun
  | [d] => { results := [.lit (.bool false)], args := [d] }
  | _ => none }
def FnExactFormulaOfTraceWrongFalsely : Prop := fnExactFormulaOfTraceRow.holds Try.pinned (OpenSpec.ofChange fnExactFormulaOfTraceWrong)

/-- 'laws.FnExactTraceOf': WHATEVER THE INPUT: true; the input reads as it did. -/
def fnExactTraceOfSpec : ChangeSpec := { name := "fnExactTraceOf", fn := fun _ => fun
  | [d] => { results := [.lit (.bool true)], args := [d] }
  | _ => none }
def fnExactTraceOfRow : OpenClaim := { program := "ytbmknlfpaggbnaa", sum := "0fcce9040eefe3bb088d2ac76fa3d968e34d7d0efee71511cb5202f62e37a9ae", func := "loop.example/g01089/laws.FnExactTraceOf", spec := "fnExactTraceOf", unfollowed := true, recurses := true, apart := false }
def FnExactTraceOfSaid : Prop := fnExactTraceOfRow.holds Try.pinned (OpenSpec.ofChange fnExactTraceOfSpec)

/-- ITS FALSE NEIGHBOUR: 'it returns false'. Refute it at one input. -/
def fnExactTraceOfWrong : ChangeSpec := { name := "fnExactTraceOf", fn := fun _ => fun
  | [d] => { results := [.lit (.bool false)], args := [d] }
  | _ => none }
def FnExactTraceOfWrongFalsely : Prop := fnExactTraceOfRow.holds Try.pinned (OpenSpec.ofChange fnExactTraceOfWrong)

/- THE SECOND FORM. 'bulk': how many values and letters a reading holds, each counted each time it is reached (what is shared counts as often as it is met; a slice's spare places count too). A statement '..UptoSaid' is the law's where the arguments, and the package variables that the reading takes, are together of bulk at most 1048576: NARROWER than '..Said'. Prove '..Said' where nothing that the law and all that it calls make is longer than what came in: it says more and counts as full. Else prove '..UptoSaid'. A law counts once. -/
mutual
def uptoBulk {H : Type} : DataW H → Nat
  | .lit (.string bytes) => bytes.length + 1
  | .lit _ => 1
  | .nil => 1
  | .ptr d => uptoBulk d + 1
  | .slice elems spare => uptoBulkAll elems + uptoBulkAll spare + 1
  | .agg parts => uptoBulkAll parts + 1
  | .iface _ d => uptoBulk d + 1
  | .map entries => uptoBulkEntries entries + 1
  | .held _ => 1
def uptoBulkAll {H : Type} : List (DataW H) → Nat
  | [] => 0
  | d :: r => uptoBulk d + uptoBulkAll r
def uptoBulkEntries {H : Type} : List (Lit × DataW H) → Nat
  | [] => 0
  | x :: r => uptoBulkEntry x + uptoBulkEntries r
def uptoBulkEntry {H : Type} : Lit × DataW H → Nat
  | (.string bytes, d) => bytes.length + uptoBulk d + 1
  | (_, d) => uptoBulk d + 1
 end
def uptoSmall : (H : Type) → List (DataW H) → Bool := fun _ ds => decide (uptoBulkAll ds ≤ 1048576)
def OpenSpec.upto (s : _root_.Go.ChangeSpec) : _root_.Go.OpenSpec := { _root_.Go.OpenSpec.ofChange s with cond := some uptoSmall }

/-- 'laws.FnExactChainFrame', WHERE WHAT IT READS IS OF BULK AT MOST 1048576: true; the input reads as it did. -/
def fnExactChainFrameUptoRow : OpenClaim := { program := "ytbmknlfpaggbnaa", sum := "0fcce9040eefe3bb088d2ac76fa3d968e34d7d0efee71511cb5202f62e37a9ae", func := "loop.example/g01089/laws.FnExactChainFrame", spec := "fnExactChainFrame", apart := false, narrowed := true }
def FnExactChainFrameUptoSaid : Prop := fnExactChainFrameUptoRow.holds Try.pinned (OpenSpec.upto fnExactChainFrameSpec)

/-- 'laws.FnExactComplementTrace', WHERE WHAT IT READS IS OF BULK AT MOST 1048576: true; the input reads as it did. -/
def fnExactComplementTraceUptoRow : OpenClaim := { program := "ytbmknlfpaggbnaa", sum := "0fcce9040eefe3bb088d2ac76fa3d968e34d7d0efee71511cb5202f62e37a9ae", func := "loop.example/g01089/laws.FnExactComplementTrace", spec := "fnExactComplementTrace", apart := false, narrowed := true }
def FnExactComplementTraceUptoSaid : Prop := fnExactComplementTraceUptoRow.holds Try.pinned (OpenSpec.upto fnExactComplementTraceSpec)

/-- 'laws.FnExactIsLetterless', WHERE WHAT IT READS IS OF BULK AT MOST 1048576: true; the input reads as it did. -/
def fnExactIsLetterlessUptoRow : OpenClaim := { program := "ytbmknlfpaggbnaa", sum := "0fcce9040eefe3bb088d2ac76fa3d968e34d7d0efee71511cb5202f62e37a9ae", func := "loop.example/g01089/laws.FnExactIsLetterless", spec := "fnExactIsLetterless", unfollowed := true, recurses := true, apart := false, narrowed := true }
def FnExactIsLetterlessUptoSaid : Prop := fnExactIsLetterlessUptoRow.holds Try.pinned (OpenSpec.upto fnExactIsLetterlessSpec)

/-- 'laws.FnExactBoxTrace', WHERE WHAT IT READS IS OF BULK AT MOST 1048576: true; the input reads as it did. -/
def fnExactBoxTraceUptoRow : OpenClaim := { program := "ytbmknlfpaggbnaa", sum := "0fcce9040eefe3bb088d2ac76fa3d968e34d7d0efee71511cb5202f62e37a9ae", func := "loop.example/g01089/laws.FnExactBoxTrace", spec := "fnExactBoxTrace", apart := false, narrowed := true }
def FnExactBoxTraceUptoSaid : Prop := fnExactBoxTraceUptoRow.holds Try.pinned (OpenSpec.upto fnExactBoxTraceSpec)

/-- 'laws.FnExactRankFormula', WHERE WHAT IT READS IS OF BULK AT MOST 1048576: true; the input reads as it did. -/
def fnExactRankFormulaUptoRow : OpenClaim := { program := "ytbmknlfpaggbnaa", sum := "0fcce9040eefe3bb088d2ac76fa3d968e34d7d0efee71511cb5202f62e37a9ae", func := "loop.example/g01089/laws.FnExactRankFormula", spec := "fnExactRankFormula", apart := false, narrowed := true }
def FnExactRankFormulaUptoSaid : Prop := fnExactRankFormulaUptoRow.holds Try.pinned (OpenSpec.upto fnExactRankFormulaSpec)

/-- 'laws.FnExactIsTrueAtRank', WHERE WHAT IT READS IS OF BULK AT MOST 1048576: true; the input reads as it did. -/
def fnExactIsTrueAtRankUptoRow : OpenClaim := { program := "ytbmknlfpaggbnaa", sum := "0fcce9040eefe3bb088d2ac76fa3d968e34d7d0efee71511cb5202f62e37a9ae", func := "loop.example/g01089/laws.FnExactIsTrueAtRank", spec := "fnExactIsTrueAtRank", unfollowed := true, recurses := true, apart := false, narrowed := true }
def FnExactIsTrueAtRankUptoSaid : Prop := fnExactIsTrueAtRankUptoRow.holds Try.pinned (OpenSpec.upto fnExactIsTrueAtRankSpec)

/-- 'laws.FnExactAreLetterlessEqual', WHERE WHAT IT READS IS OF BULK AT MOST 1048576: true; the input reads as it did. -/
def fnExactAreLetterlessEqualUptoRow : OpenClaim := { program := "ytbmknlfpaggbnaa", sum := "0fcce9040eefe3bb088d2ac76fa3d968e34d7d0efee71511cb5202f62e37a9ae", func := "loop.example/g01089/laws.FnExactAreLetterlessEqual", spec := "fnExactAreLetterlessEqual", unfollowed := true, recurses := true, apart := false, narrowed := true }
def FnExactAreLetterlessEqualUptoSaid : Prop := fnExactAreLetterlessEqualUptoRow.holds Try.pinned (OpenSpec.upto fnExactAreLetterlessEqualSpec)

/-- 'laws.FnExactIsLetterlessTheorem', WHERE WHAT IT READS IS OF BULK AT MOST 1048576: true; the input reads as it did. -/
def fnExactIsLetterlessTheoremUptoRow : OpenClaim := { program := "ytbmknlfpaggbnaa", sum := "0fcce9040eefe3bb088d2ac76fa3d968e34d7d0efee71511cb5202f62e37a9ae", func := "loop.example/g01089/laws.FnExactIsLetterlessTheorem", spec := "fnExactIsLetterlessTheorem", unfollowed := true, recurses := true, apart := false, narrowed := true }
def FnExactIsLetterlessTheoremUptoSaid : Prop := fnExactIsLetterlessTheoremUptoRow.holds Try.pinned (OpenSpec.upto fnExactIsLetterlessTheoremSpec)

/-- 'laws.FnExactIsTrueSentence', WHERE WHAT IT READS IS OF BULK AT MOST 1048576: true; the input reads as it did. -/
def fnExactIsTrueSentenceUptoRow : OpenClaim := { program := "ytbmknlfpaggbnaa", sum := "0fcce9040eefe3bb088d2ac76fa3d968e34d7d0efee71511cb5202f62e37a9ae", func := "loop.example/g01089/laws.FnExactIsTrueSentence", spec := "fnExactIsTrueSentence", unfollowed := true, recurses := true, apart := false, narrowed := true }
def FnExactIsTrueSentenceUptoSaid : Prop := fnExactIsTrueSentenceUptoRow.holds Try.pinned (OpenSpec.upto fnExactIsTrueSentenceSpec)

/-- 'laws.FnExactFirstFalseRank', WHERE WHAT IT READS IS OF BULK AT MOST 1048576: true; the input reads as it did. -/
def fnExactFirstFalseRankUptoRow : OpenClaim := { program := "ytbmknlfpaggbnaa", sum := "0fcce9040eefe3bb088d2ac76fa3d968e34d7d0efee71511cb5202f62e37a9ae", func := "loop.example/g01089/laws.FnExactFirstFalseRank", spec := "fnExactFirstFalseRank", unfollowed := true, recurses := true, apart := false, narrowed := true }
def FnExactFirstFalseRankUptoSaid : Prop := fnExactFirstFalseRankUptoRow.holds Try.pinned (OpenSpec.upto fnExactFirstFalseRankSpec)

/-- 'laws.FnExactFormulaOfTrace', WHERE WHAT IT READS IS OF BULK AT MOST 1048576: true; the input reads as it did. -/
def fnExactFormulaOfTraceUptoRow : OpenClaim := { program := "ytbmknlfpaggbnaa", sum := "0fcce9040eefe3bb088d2ac76fa3d968e34d7d0efee71511cb5202f62e37a9ae", func := "loop.example/g01089/laws.FnExactFormulaOfTrace", spec := "fnExactFormulaOfTrace", apart := false, narrowed := true }
def FnExactFormulaOfTraceUptoSaid : Prop := fnExactFormulaOfTraceUptoRow.holds Try.pinned (OpenSpec.upto fnExactFormulaOfTraceSpec)

/-- 'laws.FnExactTraceOf', WHERE WHAT IT READS IS OF BULK AT MOST 1048576: true; the input reads as it did. -/
def fnExactTraceOfUptoRow : OpenClaim := { program := "ytbmknlfpaggbnaa", sum := "0fcce9040eefe3bb088d2ac76fa3d968e34d7d0efee71511cb5202f62e37a9ae", func := "loop.example/g01089/laws.FnExactTraceOf", spec := "fnExactTraceOf", unfollowed := true, recurses := true, apart := false, narrowed := true }
def FnExactTraceOfUptoSaid : Prop := fnExactTraceOfUptoRow.holds Try.pinned (OpenSpec.upto fnExactTraceOfSpec)

end Rows
end Go.Proofs.Ytbmknlfpaggbnaa

/-
  No cell of these rows narrows 'for every input' (looked for: loops, veiled, ifaces, maps, wideKeys, modest, calm, conditions, laid).
  DERIVED. THE GIVEN ROWS OF THIS SEAT. 6 by the template 'for every input the law returns true; each argument reads behind the call as it read before'; 0 by the template 'total and deterministic' (their statements: YtgdmfihnbbgcoaaTotals.lean).
  GIVEN WITH THE SEED: the statements are not yours to turn. If you find one false, say at which input.
  Laid BY PROGRAM, IN A SANDBOX (cutbox-rows.mjs): the forced cells as the released guide's own fill.sh prints them over the translation 0f4c9398d71628da… (all of the seat's roots in one cut). By AI agents, Wed Nov 11 2026. No macro, syntax, notation, axiom, sorry.
-/
import Derived.Test.YtgdmfihnbbgcoaaChecked
import GoSem.Claim
import GoSem.ClaimJoined
import GoSem.ClaimMapViews
import Derived.JoinedTies
import Derived.KernelRfl
namespace Go.Proofs.Ytgdmfihnbbgcoaa
/- THE CELL 'sum', in the pinned program and in every row, IS THE sha256 OF THE DUMP (.gsa) THAT YtgdmfihnbbgcoaaProg.lean LOADS. Nothing in Lean hashes anything: it is a label: what it is worth is what the hold of that sum in a sandbox is worth. -/
noncomputable def Try.pinned : Pinned := { name := "ytgdmfihnbbgcoaa", sum := "0f4c9398d71628da0a971c4334d7ef98098c857f5361565a2d276e14a3098574", checked := Try.checked }
namespace Rows
def none {H : Type} : Left H := { results := [], args := [] }

/-- 'laws.FnExactReplaceOuter': WHATEVER THE INPUT: true; the input reads as it did. -/
def fnExactReplaceOuterSpec : ChangeSpec := { name := "fnExactReplaceOuter", fn := fun _ => fun
  | [d1, d2, d3] => { results := [.lit (.bool true)], args := [d1, d2, d3] }
  | _ => none }
def fnExactReplaceOuterRow : OpenClaim := { program := "ytgdmfihnbbgcoaa", sum := "0f4c9398d71628da0a971c4334d7ef98098c857f5361565a2d276e14a3098574", func := "loop.example/g01089/laws.FnExactReplaceOuter", spec := "fnExactReplaceOuter", unfollowed := true, recurses := true, apart := false }
def FnExactReplaceOuterSaid : Prop := fnExactReplaceOuterRow.holds Try.pinned (OpenSpec.ofChange fnExactReplaceOuterSpec)

/-- ITS FALSE NEIGHBOUR: 'it returns false'. Refute it at one input. -/
def fnExactReplaceOuterWrong : ChangeSpec := { name := "fnExactReplaceOuter", fn := fun _ => fun
  | [d1, d2, d3] => { results := [.lit (.bool false)], args := [d1, d2, d3] }
  | _ => none }
def FnExactReplaceOuterWrongFalsely : Prop := fnExactReplaceOuterRow.holds Try.pinned (OpenSpec.ofChange fnExactReplaceOuterWrong)

/-- 'laws.FnExactOuterParts': WHATEVER THE INPUT: true; the input reads as it did. -/
def fnExactOuterPartsSpec : ChangeSpec := { name := "fnExactOuterParts", fn := fun _ => fun
  | [d1, d2] => { results := [.lit (.bool true)], args := [d1, d2] }
  | _ => none }
def fnExactOuterPartsRow : OpenClaim := { program := "ytgdmfihnbbgcoaa", sum := "0f4c9398d71628da0a971c4334d7ef98098c857f5361565a2d276e14a3098574", func := "loop.example/g01089/laws.FnExactOuterParts", spec := "fnExactOuterParts", unfollowed := true, recurses := true, apart := false }
def FnExactOuterPartsSaid : Prop := fnExactOuterPartsRow.holds Try.pinned (OpenSpec.ofChange fnExactOuterPartsSpec)

/-- ITS FALSE NEIGHBOUR: 'it returns false'. Refute it at one input. -/
def fnExactOuterPartsWrong : ChangeSpec := { name := "fnExactOuterParts", fn := fun _ => fun
  | [d1, d2] => { results := [.lit (.bool false)], args := [d1, d2] }
  | _ => none }
def FnExactOuterPartsWrongFalsely : Prop := fnExactOuterPartsRow.holds Try.pinned (OpenSpec.ofChange fnExactOuterPartsWrong)

/-- 'laws.FnExactMeetTraces': WHATEVER THE INPUT: true; the input reads as it did. -/
def fnExactMeetTracesSpec : ChangeSpec := { name := "fnExactMeetTraces", fn := fun _ => fun
  | [d1, d2] => { results := [.lit (.bool true)], args := [d1, d2] }
  | _ => none }
def fnExactMeetTracesRow : OpenClaim := { program := "ytgdmfihnbbgcoaa", sum := "0f4c9398d71628da0a971c4334d7ef98098c857f5361565a2d276e14a3098574", func := "loop.example/g01089/laws.FnExactMeetTraces", spec := "fnExactMeetTraces", unfollowed := true, recurses := true, apart := false }
def FnExactMeetTracesSaid : Prop := fnExactMeetTracesRow.holds Try.pinned (OpenSpec.ofChange fnExactMeetTracesSpec)

/-- ITS FALSE NEIGHBOUR: 'it returns false'. Refute it at one input. -/
def fnExactMeetTracesWrong : ChangeSpec := { name := "fnExactMeetTraces", fn := fun _ => fun
  | [d1, d2] => { results := [.lit (.bool false)], args := [d1, d2] }
  | _ => none }
def FnExactMeetTracesWrongFalsely : Prop := fnExactMeetTracesRow.holds Try.pinned (OpenSpec.ofChange fnExactMeetTracesWrong)

/-- 'laws.FnExactTellingFormula': WHATEVER THE INPUT: true; the input reads as it did. -/
def fnExactTellingFormulaSpec : ChangeSpec := { name := "fnExactTellingFormula", fn := fun _ => fun
  | [d1, d2, d3, d4] => { results := [.lit (.bool true)], args := [d1, d2, d3, d4] }
  | _ => none }
def fnExactTellingFormulaRow : OpenClaim := { program := "ytgdmfihnbbgcoaa", sum := "0f4c9398d71628da0a971c4334d7ef98098c857f5361565a2d276e14a3098574", func := "loop.example/g01089/laws.FnExactTellingFormula", spec := "fnExactTellingFormula", unfollowed := true, recurses := true, apart := false }
def FnExactTellingFormulaSaid : Prop := fnExactTellingFormulaRow.holds Try.pinned (OpenSpec.ofChange fnExactTellingFormulaSpec)

/-- ITS FALSE NEIGHBOUR: 'it returns false'. Refute it at one input. -/
def fnExactTellingFormulaWrong : ChangeSpec := { name := "fnExactTellingFormula", fn := fun _ => fun
  | [d1, d2, d3, d4] => { results := [.lit (.bool false)], args := [d1, d2, d3, d4] }
  | _ => none }
def FnExactTellingFormulaWrongFalsely : Prop := fnExactTellingFormulaRow.holds Try.pinned (OpenSpec.ofChange fnExactTellingFormulaWrong)

/-- 'laws.FnExactClassicalClasses': WHATEVER THE INPUT: true; the input reads as it did. -/
def fnExactClassicalClassesSpec : ChangeSpec := { name := "fnExactClassicalClasses", fn := fun _ => fun
  | [d] => { results := [.lit (.bool true)], args := [d] }
  | _ => none }
def fnExactClassicalClassesRow : OpenClaim := { program := "ytgdmfihnbbgcoaa", sum := "0f4c9398d71628da0a971c4334d7ef98098c857f5361565a2d276e14a3098574", func := "loop.example/g01089/laws.FnExactClassicalClasses", spec := "fnExactClassicalClasses", unfollowed := true, recurses := true, apart := false }
def FnExactClassicalClassesSaid : Prop := fnExactClassicalClassesRow.holds Try.pinned (OpenSpec.ofChange fnExactClassicalClassesSpec)

/-- ITS FALSE NEIGHBOUR: 'it returns false'. Refute it at one input. -/
def fnExactClassicalClassesWrong : ChangeSpec := { name := "fnExactClassicalClasses", fn := fun _ => fun
  | [d] => { results := [.lit (.bool false)], args := [d] }
  | _ => none }
def FnExactClassicalClassesWrongFalsely : Prop := fnExactClassicalClassesRow.holds Try.pinned (OpenSpec.ofChange fnExactClassicalClassesWrong)

/-- 'laws.FnExactMergeAlike': WHATEVER THE INPUT: true; the input reads as it did. -/
def fnExactMergeAlikeSpec : ChangeSpec := { name := "fnExactMergeAlike", fn := fun _ => fun
  | [d1, d2] => { results := [.lit (.bool true)], args := [d1, d2] }
  | _ => none }
def fnExactMergeAlikeRow : OpenClaim := { program := "ytgdmfihnbbgcoaa", sum := "0f4c9398d71628da0a971c4334d7ef98098c857f5361565a2d276e14a3098574", func := "loop.example/g01089/laws.FnExactMergeAlike", spec := "fnExactMergeAlike", unfollowed := true, recurses := true, apart := false }
def FnExactMergeAlikeSaid : Prop := fnExactMergeAlikeRow.holds Try.pinned (OpenSpec.ofChange fnExactMergeAlikeSpec)

/-- ITS FALSE NEIGHBOUR: 'it returns false'. Refute it at one input. -/
def fnExactMergeAlikeWrong : ChangeSpec := { name := "fnExactMergeAlike", fn := fun _ => fun
  | [d1, d2] => { results := [.lit (.bool false)], args := [d1, d2] }
  | _ => none }
def FnExactMergeAlikeWrongFalsely : Prop := fnExactMergeAlikeRow.holds Try.pinned (OpenSpec.ofChange fnExactMergeAlikeWrong)

/- THE SECOND FORM. 'bulk': how many values and letters a reading holds, each counted each time it is reached (what is shared counts as often as it is met; a slice's spare places count too). A statement '..UptoSaid' is the law's where the arguments, and the package variables that the reading takes, are together of bulk at most 1048576: NARROWER than '..Said'. Prove '..Said' where nothing that the law and all that it calls make is longer than what came in: it says more and counts as full. Else prove '..UptoSaid'. A law counts once. -/
mutual
def uptoBulk {H : Type} : DataW H → Nat
  | .lit (.string bytes) => bytes.length + 1
  | .lit _ => 1
  | .nil => 1
  | .ptr d => uptoBulk d + 1
  | .slice elems spare => uptoBulkAll elems + uptoBulkAll spare + 1
  | .agg parts => uptoBulkAll parts + 1
  | .iface _ d => uptoBulk d + 1
  | .map entries => uptoBulkEntries entries + 1
  | .held _ => 1
def uptoBulkAll {H : Type} : List (DataW H) → Nat
  | [] => 0
  | d :: r => uptoBulk d + uptoBulkAll r
def uptoBulkEntries {H : Type} : List (Lit × DataW H) → Nat
  | [] => 0
  | x :: r => uptoBulkEntry x + uptoBulkEntries r
def uptoBulkEntry {H : Type} : Lit × DataW H → Nat
  | (.string bytes, d) => bytes.length + uptoBulk d + 1
  | (_, d) => uptoBulk d + 1
 end
def uptoSmall : (H : Type) → List (DataW H) → Bool := fun _ ds => decide (uptoBulkAll ds ≤ 1048576)
def OpenSpec.upto (s : _root_.Go.ChangeSpec) : _root_.Go.OpenSpec := { _root_.Go.OpenSpec.ofChange s with cond := some uptoSmall }

/-- 'laws.FnExactReplaceOuter', WHERE WHAT IT READS IS OF BULK AT MOST 1048576: true; the input reads as it did. -/
def fnExactReplaceOuterUptoRow : OpenClaim := { program := "ytgdmfihnbbgcoaa", sum := "0f4c9398d71628da0a971c4334d7ef98098c857f5361565a2d276e14a3098574", func := "loop.example/g01089/laws.FnExactReplaceOuter", spec := "fnExactReplaceOuter", unfollowed := true, recurses := true, apart := false, narrowed := true }
def FnExactReplaceOuterUptoSaid : Prop := fnExactReplaceOuterUptoRow.holds Try.pinned (OpenSpec.upto fnExactReplaceOuterSpec)

/-- 'laws.FnExactOuterParts', WHERE WHAT IT READS IS OF BULK AT MOST 1048576: true; the input reads as it did. -/
def fnExactOuterPartsUptoRow : OpenClaim := { program := "ytgdmfihnbbgcoaa", sum := "0f4c9398d71628da0a971c4334d7ef98098c857f5361565a2d276e14a3098574", func := "loop.example/g01089/laws.FnExactOuterParts", spec := "fnExactOuterParts", unfollowed := true, recurses := true, apart := false, narrowed := true }
def FnExactOuterPartsUptoSaid : Prop := fnExactOuterPartsUptoRow.holds Try.pinned (OpenSpec.upto fnExactOuterPartsSpec)

/-- 'laws.FnExactMeetTraces', WHERE WHAT IT READS IS OF BULK AT MOST 1048576: true; the input reads as it did. -/
def fnExactMeetTracesUptoRow : OpenClaim := { program := "ytgdmfihnbbgcoaa", sum := "0f4c9398d71628da0a971c4334d7ef98098c857f5361565a2d276e14a3098574", func := "loop.example/g01089/laws.FnExactMeetTraces", spec := "fnExactMeetTraces", unfollowed := true, recurses := true, apart := false, narrowed := true }
def FnExactMeetTracesUptoSaid : Prop := fnExactMeetTracesUptoRow.holds Try.pinned (OpenSpec.upto fnExactMeetTracesSpec)

/-- 'laws.FnExactTellingFormula', WHERE WHAT IT READS IS OF BULK AT MOST 1048576: true; the input reads as it did. -/
def fnExactTellingFormulaUptoRow : OpenClaim := { program := "ytgdmfihnbbgcoaa", sum := "0f4c9398d71628da0a971c4334d7ef98098c857f5361565a2d276e14a3098574", func := "loop.example/g01089/laws.FnExactTellingFormula", spec := "fnExactTellingFormula", unfollowed := true, recurses := true, apart := false, narrowed := true }
def FnExactTellingFormulaUptoSaid : Prop := fnExactTellingFormulaUptoRow.holds Try.pinned (OpenSpec.upto fnExactTellingFormulaSpec)

/-- 'laws.FnExactClassicalClasses', WHERE WHAT IT READS IS OF BULK AT MOST 1048576: true; the input reads as it did. -/
def fnExactClassicalClassesUptoRow : OpenClaim := { program := "ytgdmfihnbbgcoaa", sum := "0f4c9398d71628da0a971c4334d7ef98098c857f5361565a2d276e14a3098574", func := "loop.example/g01089/laws.FnExactClassicalClasses", spec := "fnExactClassicalClasses", unfollowed := true, recurses := true, apart := false, narrowed := true }
def FnExactClassicalClassesUptoSaid : Prop := fnExactClassicalClassesUptoRow.holds Try.pinned (OpenSpec.upto fnExactClassicalClassesSpec)

/-- 'laws.FnExactMergeAlike', WHERE WHAT IT READS IS OF BULK AT MOST 1048576: true; the input reads as it did. -/
def fnExactMergeAlikeUptoRow : OpenClaim := { program := "ytgdmfihnbbgcoaa", sum := "0f4c9398d71628da0a971c4334d7ef98098c857f5361565a2d276e14a3098574", func := "loop.example/g01089/laws.FnExactMergeAlike", spec := "fnExactMergeAlike", unfollowed := true, recurses := true, apart := false, narrowed := true }
def FnExactMergeAlikeUptoSaid : Prop := fnExactMergeAlikeUptoRow.holds Try.pinned (OpenSpec.upto fnExactMergeAlikeSpec)

end Rows
end Go.Proofs.Ytgdmfihnbbgcoaa

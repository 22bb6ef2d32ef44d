/-
  No cell of these rows narrows 'for every input' (looked for: loops, veiled, ifaces, maps, wideKeys, modest, calm, conditions, laid).
  DERIVED. THE GIVEN ROWS OF THIS SEAT. 6 by the template 'for every input the law returns true; each argument reads behind the call as it read before'; 0 by the template 'total and deterministic' (their statements: YtcjplcliggciaaaTotals.lean).
  GIVEN WITH THE SEED: the statements are not yours to turn. If you find one false, say at which input.
  Laid BY PROGRAM, IN A SANDBOX (cutbox-rows.mjs): the forced cells as the released guide's own fill.sh prints them over the translation 523bb512affe20e6… (all of the seat's roots in one cut). By AI agents, Wed Nov 11 2026. No macro, syntax, notation, axiom, sorry.
-/
import Derived.Test.YtcjplcliggciaaaChecked
import GoSem.Claim
import GoSem.ClaimJoined
import GoSem.ClaimMapViews
import Derived.JoinedTies
import Derived.KernelRfl
namespace Go.Proofs.Ytcjplcliggciaaa
/- THE CELL 'sum', in the pinned program and in every row, IS THE sha256 OF THE DUMP (.gsa) THAT YtcjplcliggciaaaProg.lean LOADS. Nothing in Lean hashes anything: it is a label: what it is worth is what the hold of that sum in a sandbox is worth. -/
noncomputable def Try.pinned : Pinned := { name := "ytcjplcliggciaaa", sum := "523bb512affe20e644b1133897a17d868f8dd6b9b59d41ad3cffd7f2bb6e9cf7", checked := Try.checked }
namespace Rows
def none {H : Type} : Left H := { results := [], args := [] }

/-- 'laws.FnExactReplaceOuter': WHATEVER THE INPUT: true; the input reads as it did. -/
def fnExactReplaceOuterSpec : ChangeSpec := { name := "fnExactReplaceOuter", fn := fun _ => fun
  | [d1, d2, d3] => { results := [.lit (.bool true)], args := [d1, d2, d3] }
  | _ => none }
def fnExactReplaceOuterRow : OpenClaim := { program := "ytcjplcliggciaaa", sum := "523bb512affe20e644b1133897a17d868f8dd6b9b59d41ad3cffd7f2bb6e9cf7", func := "loop.example/g01089/laws.FnExactReplaceOuter", spec := "fnExactReplaceOuter", unfollowed := true, recurses := true, apart := false }
def FnExactReplaceOuterSaid : Prop := fnExactReplaceOuterRow.holds Try.pinned (OpenSpec.ofChange fnExactReplaceOuterSpec)

/-- ITS FALSE NEIGHBOUR: 'it returns false'. Refute it at one input. -/
def fnExactReplaceOuterWrong : ChangeSpec := { name := "fnExactReplaceOuter", fn := fun _ => fun
  | [d1, d2, d3] => { results := [.lit (.bool false)], args := [d1, d2, d3] }
  | _ => none }
def FnExactReplaceOuterWrongFalsely : Prop := fnExactReplaceOuterRow.holds Try.pinned (OpenSpec.ofChange fnExactReplaceOuterWrong)

/-- 'laws.FnExactOuterParts': WHATEVER THE INPUT: true; the input reads as it did. -/
def fnExactOuterPartsSpec : ChangeSpec := { name := "fnExactOuterParts", fn := fun _ => fun
  | [d1, d2] => { results := [.lit (.bool true)], args := [d1, d2] }
  | _ => none }
def fnExactOuterPartsRow : OpenClaim := { program := "ytcjplcliggciaaa", sum := "523bb512affe20e644b1133897a17d868f8dd6b9b59d41ad3cffd7f2bb6e9cf7", func := "loop.example/g01089/laws.FnExactOuterParts", spec := "fnExactOuterParts", unfollowed := true, recurses := true, apart := false }
def FnExactOuterPartsSaid : Prop := fnExactOuterPartsRow.holds Try.pinned (OpenSpec.ofChange fnExactOuterPartsSpec)

/-- ITS FALSE NEIGHBOUR: 'it returns false'. Refute it at one input. -/
def fnExactOuterPartsWrong : ChangeSpec := { name := "fnExactOuterParts", fn := fun _ => fun
  | [d1, d2] => { results := [.lit (.bool false)], args := [d1, d2] }
  | _ => none }
def FnExactOuterPartsWrongFalsely : Prop := fnExactOuterPartsRow.holds Try.pinned (OpenSpec.ofChange fnExactOuterPartsWrong)

/-- 'laws.FnExactFixedPointOf': WHATEVER THE INPUT: true; the input reads as it did. -/
def fnExactFixedPointOfSpec : ChangeSpec := { name := "fnExactFixedPointOf", fn := fun _ => fun
  | [d1, d2] => { results := [.lit (.bool true)], args := [d1, d2] }
  | _ => none }
def fnExactFixedPointOfRow : OpenClaim := { program := "ytcjplcliggciaaa", sum := "523bb512affe20e644b1133897a17d868f8dd6b9b59d41ad3cffd7f2bb6e9cf7", func := "loop.example/g01089/laws.FnExactFixedPointOf", spec := "fnExactFixedPointOf", unfollowed := true, recurses := true, apart := false }
def FnExactFixedPointOfSaid : Prop := fnExactFixedPointOfRow.holds Try.pinned (OpenSpec.ofChange fnExactFixedPointOfSpec)

/-- ITS FALSE NEIGHBOUR: 'it returns false'. Refute it at one input. -/
def fnExactFixedPointOfWrong : ChangeSpec := { name := "fnExactFixedPointOf", fn := fun _ => fun
  | [d1, d2] => { results := [.lit (.bool false)], args := [d1, d2] }
  | _ => none }
def FnExactFixedPointOfWrongFalsely : Prop := fnExactFixedPointOfRow.holds Try.pinned (OpenSpec.ofChange fnExactFixedPointOfWrong)

/-- 'laws.FnExactMeetTraces': WHATEVER THE INPUT: true; the input reads as it did. -/
def fnExactMeetTracesSpec : ChangeSpec := { name := "fnExactMeetTraces", fn := fun _ => fun
  | [d1, d2] => { results := [.lit (.bool true)], args := [d1, d2] }
  | _ => none }
def fnExactMeetTracesRow : OpenClaim := { program := "ytcjplcliggciaaa", sum := "523bb512affe20e644b1133897a17d868f8dd6b9b59d41ad3cffd7f2bb6e9cf7", func := "loop.example/g01089/laws.FnExactMeetTraces", spec := "fnExactMeetTraces", unfollowed := true, recurses := true, apart := false }
def FnExactMeetTracesSaid : Prop := fnExactMeetTracesRow.holds Try.pinned (OpenSpec.ofChange fnExactMeetTracesSpec)

/-- ITS FALSE NEIGHBOUR: 'it returns false'. Refute it at one input. -/
def fnExactMeetTracesWrong : ChangeSpec := { name := "fnExactMeetTraces", fn := fun _ => fun
  | [d1, d2] => { results := [.lit (.bool false)], args := [d1, d2] }
  | _ => none }
def FnExactMeetTracesWrongFalsely : Prop := fnExactMeetTracesRow.holds Try.pinned (OpenSpec.ofChange fnExactMeetTracesWrong)

/-- 'laws.FnExactReducedModel': WHATEVER THE INPUT: true; the input reads as it did. -/
def fnExactReducedModelSpec : ChangeSpec := { name := "fnExactReducedModel", fn := fun _ => fun
  | [d1, d2] => { results := [.lit (.bool true)], args := [d1, d2] }
  | _ => none }
def fnExactReducedModelRow : OpenClaim := { program := "ytcjplcliggciaaa", sum := "523bb512affe20e644b1133897a17d868f8dd6b9b59d41ad3cffd7f2bb6e9cf7", func := "loop.example/g01089/laws.FnExactReducedModel", spec := "fnExactReducedModel", unfollowed := true, recurses := true, apart := false }
def FnExactReducedModelSaid : Prop := fnExactReducedModelRow.holds Try.pinned (OpenSpec.ofChange fnExactReducedModelSpec)

/-- ITS FALSE NEIGHBOUR: 'it returns false'. Refute it at one input. -/
def fnExactReducedModelWrong : ChangeSpec := { name := "fnExactReducedModel", fn := fun _ => fun
  | [d1, d2] => { results := [.lit (.bool false)], args := [d1, d2] }
  | _ => none }
def FnExactReducedModelWrongFalsely : Prop := fnExactReducedModelRow.holds Try.pinned (OpenSpec.ofChange fnExactReducedModelWrong)

/-- 'laws.FnExactTellingFormula': WHATEVER THE INPUT: true; the input reads as it did. -/
def fnExactTellingFormulaSpec : ChangeSpec := { name := "fnExactTellingFormula", fn := fun _ => fun
  | [d1, d2, d3, d4] => { results := [.lit (.bool true)], args := [d1, d2, d3, d4] }
  | _ => none }
def fnExactTellingFormulaRow : OpenClaim := { program := "ytcjplcliggciaaa", sum := "523bb512affe20e644b1133897a17d868f8dd6b9b59d41ad3cffd7f2bb6e9cf7", func := "loop.example/g01089/laws.FnExactTellingFormula", spec := "fnExactTellingFormula", unfollowed := true, recurses := true, apart := false }
def FnExactTellingFormulaSaid : Prop := fnExactTellingFormulaRow.holds Try.pinned (OpenSpec.ofChange fnExactTellingFormulaSpec)

/-- ITS FALSE NEIGHBOUR: 'it returns false'. Refute it at one input. -/
def fnExactTellingFormulaWrong : ChangeSpec := { name := "fnExactTellingFormula", fn := fun _ => fun
  | [d1, d2, d3, d4] => { results := [.lit (.bool false)], args := [d1, d2, d3, d4] }
  | _ => none }
def FnExactTellingFormulaWrongFalsely : Prop := fnExactTellingFormulaRow.holds Try.pinned (OpenSpec.ofChange fnExactTellingFormulaWrong)

/- THE SECOND FORM. 'bulk': how many values and letters a reading holds, each counted each time it is reached (what is shared counts as often as it is met; a slice's spare places count too). A statement '..UptoSaid' is the law's where the arguments, and the package variables that the reading takes, are together of bulk at most 1048576: NARROWER than '..Said'. Prove '..Said' where nothing that the law and all that it calls make is longer than what came in: it says more and counts as full. Else prove '..UptoSaid'. A law counts once. -/
mutual
def uptoBulk {H : Type} : DataW H → Nat
  | .lit (.string bytes) => bytes.length + 1
  | .lit _ => 1
  | .nil => 1
  | .ptr d => uptoBulk d + 1
  | .slice elems spare => uptoBulkAll elems + uptoBulkAll spare + 1
  | .agg parts => uptoBulkAll parts + 1
  | .iface _ d => uptoBulk d + 1
  | .map entries => uptoBulkEntries entries + 1
  | .held _ => 1
def uptoBulkAll {H : Type} : List (DataW H) → Nat
  | [] => 0
  | d :: r => uptoBulk d + uptoBulkAll r
def uptoBulkEntries {H : Type} : List (Lit × DataW H) → Nat
  | [] => 0
  | x :: r => uptoBulkEntry x + uptoBulkEntries r
def uptoBulkEntry {H : Type} : Lit × DataW H → Nat
  | (.string bytes, d) => bytes.length + uptoBulk d + 1
  | (_, d) => uptoBulk d + 1
 end
def uptoSmall : (H : Type) → List (DataW H) → Bool := fun _ ds => decide (uptoBulkAll ds ≤ 1048576)
def OpenSpec.upto (s : _root_.Go.ChangeSpec) : _root_.Go.OpenSpec := { _root_.Go.OpenSpec.ofChange s with cond := some uptoSmall }

/-- 'laws.FnExactReplaceOuter', WHERE WHAT IT READS IS OF BULK AT MOST 1048576: true; the input reads as it did. -/
def fnExactReplaceOuterUptoRow : OpenClaim := { program := "ytcjplcliggciaaa", sum := "523bb512affe20e644b1133897a17d868f8dd6b9b59d41ad3cffd7f2bb6e9cf7", func := "loop.example/g01089/laws.FnExactReplaceOuter", spec := "fnExactReplaceOuter", unfollowed := true, recurses := true, apart := false, narrowed := true }
def FnExactReplaceOuterUptoSaid : Prop := fnExactReplaceOuterUptoRow.holds Try.pinned (OpenSpec.upto fnExactReplaceOuterSpec)

/-- 'laws.FnExactOuterParts', WHERE WHAT IT READS IS OF BULK AT MOST 1048576: true; the input reads as it did. -/
def fnExactOuterPartsUptoRow : OpenClaim := { program := "ytcjplcliggciaaa", sum := "523bb512affe20e644b1133897a17d868f8dd6b9b59d41ad3cffd7f2bb6e9cf7", func := "loop.example/g01089/laws.FnExactOuterParts", spec := "fnExactOuterParts", unfollowed := true, recurses := true, apart := false, narrowed := true }
def FnExactOuterPartsUptoSaid : Prop := fnExactOuterPartsUptoRow.holds Try.pinned (OpenSpec.upto fnExactOuterPartsSpec)

/-- 'laws.FnExactFixedPointOf', WHERE WHAT IT READS IS OF BULK AT MOST 1048576: true; the input reads as it did. -/
def fnExactFixedPointOfUptoRow : OpenClaim := { program := "ytcjplcliggciaaa", sum := "523bb512affe20e644b1133897a17d868f8dd6b9b59d41ad3cffd7f2bb6e9cf7", func := "loop.example/g01089/laws.FnExactFixedPointOf", spec := "fnExactFixedPointOf", unfollowed := true, recurses := true, apart := false, narrowed := true }
def FnExactFixedPointOfUptoSaid : Prop := fnExactFixedPointOfUptoRow.holds Try.pinned (OpenSpec.upto fnExactFixedPointOfSpec)

/-- 'laws.FnExactMeetTraces', WHERE WHAT IT READS IS OF BULK AT MOST 1048576: true; the input reads as it did. -/
def fnExactMeetTracesUptoRow : OpenClaim := { program := "ytcjplcliggciaaa", sum := "523bb512affe20e644b1133897a17d868f8dd6b9b59d41ad3cffd7f2bb6e9cf7", func := "loop.example/g01089/laws.FnExactMeetTraces", spec := "fnExactMeetTraces", unfollowed := true, recurses := true, apart := false, narrowed := true }
def FnExactMeetTracesUptoSaid : Prop := fnExactMeetTracesUptoRow.holds Try.pinned (OpenSpec.upto fnExactMeetTracesSpec)

/-- 'laws.FnExactReducedModel', WHERE WHAT IT READS IS OF BULK AT MOST 1048576: true; the input reads as it did. -/
def fnExactReducedModelUptoRow : OpenClaim := { program := "ytcjplcliggciaaa", sum := "523bb512affe20e644b1133897a17d868f8dd6b9b59d41ad3cffd7f2bb6e9cf7", func := "loop.example/g01089/laws.FnExactReducedModel", spec := "fnExactReducedModel", unfollowed := true, recurses := true, apart := false, narrowed := true }
def FnExactReducedModelUptoSaid : Prop := fnExactReducedModelUptoRow.holds Try.pinned (OpenSpec.upto fnExactReducedModelSpec)

/-- 'laws.FnExactTellingFormula', WHERE WHAT IT READS IS OF BULK AT MOST 1048576: true; the input reads as it did. -/
def fnExactTellingFormulaUptoRow : OpenClaim := { program := "ytcjplcliggciaaa", sum := "523bb512affe20e644b1133897a17d868f8dd6b9b59d41ad3cffd7f2bb6e9cf7", func := "loop.example/g01089/laws.FnExactTellingFormula", spec := "fnExactTellingFormula", unfollowed := true, recurses := true, apart := false, narrowed := true }
def FnExactTellingFormulaUptoSaid : Prop := fnExactTellingFormulaUptoRow.holds Try.pinned (OpenSpec.upto fnExactTellingFormulaSpec)

end Rows
end Go.Proofs.Ytcjplcliggciaaa

/-
  NARROWER THAN 'FOR EVERY INPUT', by the rows' own cells (each row's printed sentence says how): FnExactDischargeHypothesis: laid.
  DERIVED. THE GIVEN ROWS OF THIS SEAT. 1 by the template 'for every input the law returns true; each argument reads behind the call as it read before'; 0 by the template 'total and deterministic' (their statements: YtcikenffeekkeaaGreatDoorTotals.lean).
  GIVEN WITH THE SEED: the statements are not yours to turn. If you find one false, say at which input.
  Laid BY PROGRAM, IN A SANDBOX (cutbox-rows.mjs): the forced cells as the released guide's own fill.sh prints them over the translation 8b183c45e47e757d… (all of the seat's roots in one cut). By AI agents, Wed Nov 11 2026. No macro, syntax, notation, axiom, sorry.
-/
import Derived.Test.YtcikenffeekkeaaGreatDoorChecked
import GoSem.Claim
import GoSem.ClaimJoined
import GoSem.ClaimMapViews
import Derived.JoinedTies
import Derived.KernelRfl
namespace Go.Proofs.YtcikenffeekkeaaGreatDoor
/- THE CELL 'sum', in the pinned program and in every row, IS THE sha256 OF THE DUMP (.gsa) THAT YtcikenffeekkeaaGreatDoorProg.lean LOADS. Nothing in Lean hashes anything: it is a label: what it is worth is what the hold of that sum in a sandbox is worth. -/
noncomputable def Tryz.pinned : Pinned := { name := "ytcikenffeekkeaagreatdoor", sum := "8b183c45e47e757ddc6b82fccbdc3802f11ee99873d399f26c3fcd7fb748d20e", checked := Tryz.checked }
namespace Rows
def none {H : Type} : Left H := { results := [], args := [] }

/- WHAT THE LISTED PACKAGE-LEVEL VARIABLES READ AS WHEN THE CALL BEGINS. Each datum BY PROGRAM (the guide's laid-datum.mjs) off the statement by which the dump's own 'gosem.cut.vars' lays the variable. In a bare row this is a premise. The card (YtcikenffeekkeaaGreatDoorCards.lean) ties it to the program's text. -/
def laid_loop_example_g01089_impl_schemeTexts {H : Type} : DataW H := .agg [.lit (.string [112, 62, 113, 62, 112]), .lit (.string [40, 112, 62, 113, 62, 114, 41, 62, 40, 112, 62, 113, 41, 62, 112, 62, 114]), .lit (.string [112, 38, 113, 62, 112]), .lit (.string [112, 38, 113, 62, 113]), .lit (.string [112, 62, 113, 62, 112, 38, 113]), .lit (.string [112, 62, 112, 124, 113]), .lit (.string [113, 62, 112, 124, 113]), .lit (.string [40, 112, 62, 114, 41, 62, 40, 113, 62, 114, 41, 62, 112, 124, 113, 62, 114]), .lit (.string [70, 62, 112]), .lit (.string [126, 126, 112, 62, 112]), .lit (.string [91, 93, 40, 112, 62, 113, 41, 62, 91, 93, 112, 62, 91, 93, 113]), .lit (.string [60, 62, 112, 62, 126, 91, 93, 126, 112]), .lit (.string [126, 91, 93, 126, 112, 62, 60, 62, 112]), .lit (.string [91, 93, 112, 62, 112]), .lit (.string [91, 93, 112, 62, 91, 93, 91, 93, 112]), .lit (.string [60, 62, 112, 62, 91, 93, 60, 62, 112]), .lit (.string [112, 62, 91, 93, 60, 62, 112]), .lit (.string [91, 93, 112, 62, 60, 62, 112]), .lit (.string [91, 93, 40, 91, 93, 112, 62, 112, 41, 62, 91, 93, 112])]

/-- 'laws.FnExactDischargeHypothesis': WHATEVER THE INPUT: true; the input reads as it did. -/
def fnExactDischargeHypothesisSpec : ChangeSpec := { name := "fnExactDischargeHypothesis", vars := ["loop.example/g01089/impl.schemeTexts"], fn := fun _ => fun
  | [d1, d2, d3, g1] => { results := [.lit (.bool true)], args := [d1, d2, d3], vars := [g1] }
  | _ => none }
def fnExactDischargeHypothesisRow : OpenClaim := { program := "ytcikenffeekkeaagreatdoor", sum := "8b183c45e47e757ddc6b82fccbdc3802f11ee99873d399f26c3fcd7fb748d20e", func := "loop.example/g01089/laws.FnExactDischargeHypothesis", spec := "fnExactDischargeHypothesis", unfollowed := true, recurses := true, named := ["loop.example/g01089/impl.schemeTexts"], apart := false, laid := [("loop.example/g01089/impl.schemeTexts", laid_loop_example_g01089_impl_schemeTexts)] }
def FnExactDischargeHypothesisSaid : Prop := fnExactDischargeHypothesisRow.holds Tryz.pinned (OpenSpec.ofChange fnExactDischargeHypothesisSpec)

/-- ITS FALSE NEIGHBOUR: 'it returns false'. Refute it at one input. -/
def fnExactDischargeHypothesisWrong : ChangeSpec := { name := "fnExactDischargeHypothesis", vars := ["loop.example/g01089/impl.schemeTexts"], fn := fun _ => fun
  | [d1, d2, d3, g1] => { results := [.lit (.bool false)], args := [d1, d2, d3], vars := [g1] }
  | _ => none }
def FnExactDischargeHypothesisWrongFalsely : Prop := fnExactDischargeHypothesisRow.holds Tryz.pinned (OpenSpec.ofChange fnExactDischargeHypothesisWrong)

/- THE SECOND FORM. 'bulk': how many values and letters a reading holds, each counted each time it is reached (what is shared counts as often as it is met; a slice's spare places count too). A statement '..UptoSaid' is the law's where the arguments, and the package variables that the reading takes, are together of bulk at most 1048576: NARROWER than '..Said'. Prove '..Said' where nothing that the law and all that it calls make is longer than what came in: it says more and counts as full. Else prove '..UptoSaid'. A law counts once. -/
mutual
def uptoBulk {H : Type} : DataW H → Nat
  | .lit (.string bytes) => bytes.length + 1
  | .lit _ => 1
  | .nil => 1
  | .ptr d => uptoBulk d + 1
  | .slice elems spare => uptoBulkAll elems + uptoBulkAll spare + 1
  | .agg parts => uptoBulkAll parts + 1
  | .iface _ d => uptoBulk d + 1
  | .map entries => uptoBulkEntries entries + 1
  | .held _ => 1
def uptoBulkAll {H : Type} : List (DataW H) → Nat
  | [] => 0
  | d :: r => uptoBulk d + uptoBulkAll r
def uptoBulkEntries {H : Type} : List (Lit × DataW H) → Nat
  | [] => 0
  | x :: r => uptoBulkEntry x + uptoBulkEntries r
def uptoBulkEntry {H : Type} : Lit × DataW H → Nat
  | (.string bytes, d) => bytes.length + uptoBulk d + 1
  | (_, d) => uptoBulk d + 1
 end
def uptoSmall : (H : Type) → List (DataW H) → Bool := fun _ ds => decide (uptoBulkAll ds ≤ 1048576)
def OpenSpec.upto (s : _root_.Go.ChangeSpec) : _root_.Go.OpenSpec := { _root_.Go.OpenSpec.ofChange s with cond := some uptoSmall }

/-- 'laws.FnExactDischargeHypothesis', WHERE WHAT IT READS IS OF BULK AT MOST 1048576: true; the input reads as it did. -/
def fnExactDischargeHypothesisUptoRow : OpenClaim := { program := "ytcikenffeekkeaagreatdoor", sum := "8b183c45e47e757ddc6b82fccbdc3802f11ee99873d399f26c3fcd7fb748d20e", func := "loop.example/g01089/laws.FnExactDischargeHypothesis", spec := "fnExactDischargeHypothesis", unfollowed := true, recurses := true, named := ["loop.example/g01089/impl.schemeTexts"], apart := false, laid := [("loop.example/g01089/impl.schemeTexts", laid_loop_example_g01089_impl_schemeTexts)], narrowed := true }
def FnExactDischargeHypothesisUptoSaid : Prop := fnExactDischargeHypothesisUptoRow.holds Tryz.pinned (OpenSpec.upto fnExactDischargeHypothesisSpec)

end Rows
end Go.Proofs.YtcikenffeekkeaaGreatDoor

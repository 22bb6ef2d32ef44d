/-
  No cell of these rows narrows 'for every input' (looked for: loops, veiled, ifaces, maps, wideKeys, modest, calm, conditions, laid).
  DERIVED. THE GIVEN ROWS OF THIS SEAT. 4 by the template 'for every input the law returns true; each argument reads behind the call as it read before'; 0 by the template 'total and deterministic' (their statements: YtgcoohlakcncbaaGreatTotals.lean).
  GIVEN WITH THE SEED: the statements are not yours to turn. If you find one false, say at which input.
  Laid BY PROGRAM, IN A SANDBOX (cutbox-rows.mjs): the forced cells as the released guide's own fill.sh prints them over the translation e4758e6051615232… (all of the seat's roots in one cut). By AI agents, Wed Nov 11 2026. No macro, syntax, notation, axiom, sorry.
-/
import Derived.Test.YtgcoohlakcncbaaGreatChecked
import GoSem.Claim
import GoSem.ClaimJoined
import GoSem.ClaimMapViews
import Derived.JoinedTies
import Derived.KernelRfl
namespace Go.Proofs.YtgcoohlakcncbaaGreat
/- THE CELL 'sum', in the pinned program and in every row, IS THE sha256 OF THE DUMP (.gsa) THAT YtgcoohlakcncbaaGreatProg.lean LOADS. Nothing in Lean hashes anything: it is a label: what it is worth is what the hold of that sum in a sandbox is worth. -/
noncomputable def Tryz.pinned : Pinned := { name := "ytgcoohlakcncbaagreat", sum := "e4758e6051615232372a9c54125778c73b664729bd416fdee0067d1154ce22fc", checked := Tryz.checked }
namespace Rows
def none {H : Type} : Left H := { results := [], args := [] }

/-- 'laws.FnExactIsFixedPoint': WHATEVER THE INPUT: true; the input reads as it did. -/
def fnExactIsFixedPointSpec : ChangeSpec := { name := "fnExactIsFixedPoint", fn := fun _ => fun
  | [d1, d2, d3] => { results := [.lit (.bool true)], args := [d1, d2, d3] }
  | _ => none }
def fnExactIsFixedPointRow : OpenClaim := { program := "ytgcoohlakcncbaagreat", sum := "e4758e6051615232372a9c54125778c73b664729bd416fdee0067d1154ce22fc", func := "loop.example/g01089/laws.FnExactIsFixedPoint", spec := "fnExactIsFixedPoint", unfollowed := true, recurses := true, apart := false }
def FnExactIsFixedPointSaid : Prop := fnExactIsFixedPointRow.holds Tryz.pinned (OpenSpec.ofChange fnExactIsFixedPointSpec)

/-- ITS FALSE NEIGHBOUR: 'it returns false'. Refute it at one input. -/
def fnExactIsFixedPointWrong : ChangeSpec := { name := "fnExactIsFixedPoint", fn := fun _ => fun
  | [d1, d2, d3] => { results := [.lit (.bool false)], args := [d1, d2, d3] }
  | _ => none }
def FnExactIsFixedPointWrongFalsely : Prop := fnExactIsFixedPointRow.holds Tryz.pinned (OpenSpec.ofChange fnExactIsFixedPointWrong)

/-- 'laws.FnUniqueness': WHATEVER THE INPUT: true; the input reads as it did. -/
def fnUniquenessSpec : ChangeSpec := { name := "fnUniqueness", fn := fun _ => fun
  | [d] => { results := [.lit (.bool true)], args := [d] }
  | _ => none }
def fnUniquenessRow : OpenClaim := { program := "ytgcoohlakcncbaagreat", sum := "e4758e6051615232372a9c54125778c73b664729bd416fdee0067d1154ce22fc", func := "loop.example/g01089/laws.FnUniqueness", spec := "fnUniqueness", unfollowed := true, recurses := true, apart := false }
def FnUniquenessSaid : Prop := fnUniquenessRow.holds Tryz.pinned (OpenSpec.ofChange fnUniquenessSpec)

/-- ITS FALSE NEIGHBOUR: 'it returns false'. Refute it at one input. -/
def fnUniquenessWrong : ChangeSpec := { name := "fnUniqueness", fn := fun _ => fun
  | [d] => { results := [.lit (.bool false)], args := [d] }
  | _ => none }
def FnUniquenessWrongFalsely : Prop := fnUniquenessRow.holds Tryz.pinned (OpenSpec.ofChange fnUniquenessWrong)

/-- 'laws.FnFixedPoints': WHATEVER THE INPUT: true; the input reads as it did. -/
def fnFixedPointsSpec : ChangeSpec := { name := "fnFixedPoints", fn := fun _ => fun
  | [d] => { results := [.lit (.bool true)], args := [d] }
  | _ => none }
def fnFixedPointsRow : OpenClaim := { program := "ytgcoohlakcncbaagreat", sum := "e4758e6051615232372a9c54125778c73b664729bd416fdee0067d1154ce22fc", func := "loop.example/g01089/laws.FnFixedPoints", spec := "fnFixedPoints", unfollowed := true, recurses := true, apart := false }
def FnFixedPointsSaid : Prop := fnFixedPointsRow.holds Tryz.pinned (OpenSpec.ofChange fnFixedPointsSpec)

/-- ITS FALSE NEIGHBOUR: 'it returns false'. Refute it at one input. -/
def fnFixedPointsWrong : ChangeSpec := { name := "fnFixedPoints", fn := fun _ => fun
  | [d] => { results := [.lit (.bool false)], args := [d] }
  | _ => none }
def FnFixedPointsWrongFalsely : Prop := fnFixedPointsRow.holds Tryz.pinned (OpenSpec.ofChange fnFixedPointsWrong)

/-- 'laws.FnTraces': WHATEVER THE INPUT: true; the input reads as it did. -/
def fnTracesSpec : ChangeSpec := { name := "fnTraces", fn := fun _ => fun
  | [d] => { results := [.lit (.bool true)], args := [d] }
  | _ => none }
def fnTracesRow : OpenClaim := { program := "ytgcoohlakcncbaagreat", sum := "e4758e6051615232372a9c54125778c73b664729bd416fdee0067d1154ce22fc", func := "loop.example/g01089/laws.FnTraces", spec := "fnTraces", unfollowed := true, recurses := true, apart := false }
def FnTracesSaid : Prop := fnTracesRow.holds Tryz.pinned (OpenSpec.ofChange fnTracesSpec)

/-- ITS FALSE NEIGHBOUR: 'it returns false'. Refute it at one input. -/
def fnTracesWrong : ChangeSpec := { name := "fnTraces", fn := fun _ => fun
  | [d] => { results := [.lit (.bool false)], args := [d] }
  | _ => none }
def FnTracesWrongFalsely : Prop := fnTracesRow.holds Tryz.pinned (OpenSpec.ofChange fnTracesWrong)

/- THE SECOND FORM. 'bulk': how many values and letters a reading holds, each counted each time it is reached (what is shared counts as often as it is met; a slice's spare places count too). A statement '..UptoSaid' is the law's where the arguments, and the package variables that the reading takes, are together of bulk at most 1048576: NARROWER than '..Said'. Prove '..Said' where nothing that the law and all that it calls make is longer than what came in: it says more and counts as full. Else prove '..UptoSaid'. A law counts once. -/
mutual
def uptoBulk {H : Type} : DataW H → Nat
  | .lit (.string bytes) => bytes.length + 1
  | .lit _ => 1
  | .nil => 1
  | .ptr d => uptoBulk d + 1
  | .slice elems spare => uptoBulkAll elems + uptoBulkAll spare + 1
  | .agg parts => uptoBulkAll parts + 1
  | .iface _ d => uptoBulk d + 1
  | .map entries => uptoBulkEntries entries + 1
  | .held _ => 1
def uptoBulkAll {H : Type} : List (DataW H) → Nat
  | [] => 0
  | d :: r => uptoBulk d + uptoBulkAll r
def uptoBulkEntries {H : Type} : List (Lit × DataW H) → Nat
  | [] => 0
  | x :: r => uptoBulkEntry x + uptoBulkEntries r
def uptoBulkEntry {H : Type} : Lit × DataW H → Nat
  | (.string bytes, d) => bytes.length + uptoBulk d + 1
  | (_, d) => uptoBulk d + 1
 end
def uptoSmall : (H : Type) → List (DataW H) → Bool := fun _ ds => decide (uptoBulkAll ds ≤ 1048576)
def OpenSpec.upto (s : _root_.Go.ChangeSpec) : _root_.Go.OpenSpec := { _root_.Go.OpenSpec.ofChange s with cond := some uptoSmall }

/-- 'laws.FnExactIsFixedPoint', WHERE WHAT IT READS IS OF BULK AT MOST 1048576: true; the input reads as it did. -/
def fnExactIsFixedPointUptoRow : OpenClaim := { program := "ytgcoohlakcncbaagreat", sum := "e4758e6051615232372a9c54125778c73b664729bd416fdee0067d1154ce22fc", func := "loop.example/g01089/laws.FnExactIsFixedPoint", spec := "fnExactIsFixedPoint", unfollowed := true, recurses := true, apart := false, narrowed := true }
def FnExactIsFixedPointUptoSaid : Prop := fnExactIsFixedPointUptoRow.holds Tryz.pinned (OpenSpec.upto fnExactIsFixedPointSpec)

/-- 'laws.FnUniqueness', WHERE WHAT IT READS IS OF BULK AT MOST 1048576: true; the input reads as it did. -/
def fnUniquenessUptoRow : OpenClaim := { program := "ytgcoohlakcncbaagreat", sum := "e4758e6051615232372a9c54125778c73b664729bd416fdee0067d1154ce22fc", func := "loop.example/g01089/laws.FnUniqueness", spec := "fnUniqueness", unfollowed := true, recurses := true, apart := false, narrowed := true }
def FnUniquenessUptoSaid : Prop := fnUniquenessUptoRow.holds Tryz.pinned (OpenSpec.upto fnUniquenessSpec)

/-- 'laws.FnFixedPoints', WHERE WHAT IT READS IS OF BULK AT MOST 1048576: true; the input reads as it did. -/
def fnFixedPointsUptoRow : OpenClaim := { program := "ytgcoohlakcncbaagreat", sum := "e4758e6051615232372a9c54125778c73b664729bd416fdee0067d1154ce22fc", func := "loop.example/g01089/laws.FnFixedPoints", spec := "fnFixedPoints", unfollowed := true, recurses := true, apart := false, narrowed := true }
def FnFixedPointsUptoSaid : Prop := fnFixedPointsUptoRow.holds Tryz.pinned (OpenSpec.upto fnFixedPointsSpec)

/-- 'laws.FnTraces', WHERE WHAT IT READS IS OF BULK AT MOST 1048576: true; the input reads as it did. -/
def fnTracesUptoRow : OpenClaim := { program := "ytgcoohlakcncbaagreat", sum := "e4758e6051615232372a9c54125778c73b664729bd416fdee0067d1154ce22fc", func := "loop.example/g01089/laws.FnTraces", spec := "fnTraces", unfollowed := true, recurses := true, apart := false, narrowed := true }
def FnTracesUptoSaid : Prop := fnTracesUptoRow.holds Tryz.pinned (OpenSpec.upto fnTracesSpec)

end Rows
end Go.Proofs.YtgcoohlakcncbaaGreat

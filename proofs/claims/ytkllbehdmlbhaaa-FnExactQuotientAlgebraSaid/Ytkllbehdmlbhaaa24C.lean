/- Contracts of valuations, of the reference: l17Is, IsValuation. Written by gen24A.py. -/
import Derived.Test.Ytkllbehdmlbhaaa24A
namespace Go.Proofs.Ytkllbehdmlbhaaa
open Go.RowKit
set_option linter.unusedVariables false
set_option linter.unusedSimpArgs false
def up17 (ns : List Nat) (V : List Int) : Bool := decide (V.length = 6) && V.all fun m => upn ns m
theorem up17_take {ns : List Nat} {V : List Int} {j : Nat} (h : j < V.length) : (V.take (j + 1)).all (fun m => upn ns m) = ((V.take j).all (fun m => upn ns m) && upn ns V[j]) := by
  rw [List.take_succ_eq_append_getElem h, List.all_append]
  simp
end Go.Proofs.Ytkllbehdmlbhaaa

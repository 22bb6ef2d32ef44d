/- Contracts of QuotientModel, of the program. -/
import Derived.Test.Ytnolbgdbboiehaa07s
namespace Go.Proofs.Ytnolbgdbboiehaa
open Go.RowKit
set_option linter.unusedVariables false
set_option linter.unusedSimpArgs false
/-- what a Model that is a result holds: its lists lie in memory of their own, the one below H, the other from H on -/
def MdR (w w' : World) (u1 u2 : Value) (xs ys : List Int) : Prop := ∃ H, w.heap.size ≤ H ∧ H ≤ w'.heap.size ∧ Ob cI 2 w.heap.size H w' u1 xs ∧ Ob cI 2 H w'.heap.size w' u2 ys
end Go.Proofs.Ytnolbgdbboiehaa

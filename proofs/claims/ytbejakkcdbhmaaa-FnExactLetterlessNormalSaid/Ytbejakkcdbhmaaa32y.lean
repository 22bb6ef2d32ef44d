/- Contracts of ComplementTrace, of the program and of the reference. -/
import Derived.Test.Ytbejakkcdbhmaaa32x
import Derived.Test.Ytbejakkcdbhmaaa32c
namespace Go.Proofs.Ytbejakkcdbhmaaa
open Go.RowKit
set_option linter.unusedVariables false
set_option linter.unusedSimpArgs false
theorem far2 {w : World} {p q a b : Addr} {x y u v : Value} (h0 : w.cell? p = some x) (h1 : w.cell? q = some y) (hp : a.block ≠ p.block) (hq : a.block ≠ q.block) (hab : b.block = a.block := by rfl) :
    ((w.setCell a u).setCell b v).cell? p = some x ∧ ((w.setCell a u).setCell b v).cell? q = some y := by
  rw [World.cell?_setCell_far _ _ _ _ (hab ▸ hp), World.cell?_setCell_far _ _ _ _ hp, World.cell?_setCell_far _ _ _ _ (hab ▸ hq), World.cell?_setCell_far _ _ _ _ hq]
  exact ⟨h0, h1⟩
end Go.Proofs.Ytbejakkcdbhmaaa

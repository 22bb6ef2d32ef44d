/- Plain law of chapters 1 and 5: the transitive closure, what is reached from a world, parts of masks. No program in sight. -/
import Derived.Test.YtgkogfjifcfkoaaGreatY05
namespace Go.Proofs.YtgkogfjifcfkoaaGreat
set_option linter.unusedVariables false
set_option linter.unusedSimpArgs false
/-- does element i see element j? -/
def se (o : List Nat) (i j : Nat) : Bool := (o.getD i 0).testBit j
/-- the closure contains the relation, is transitive, and lies in each closed set -/
theorem clo_sub (o : List Nat) (k i j : Nat) (h : se o i j = true) : se (clo o k) i j = true := by
  have := (lel_clo o 0 k).2 i j h
  rwa [Nat.zero_add] at this
end Go.Proofs.YtgkogfjifcfkoaaGreat

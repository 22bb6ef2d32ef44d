/- Joined of several texts: M07m, AN, 07j, 07l. -/
import Derived.Test.YtboldkahppdmbaaGreatDoorLA
import Derived.Test.YtboldkahppdmbaaGreatDoorHI
import Derived.Test.YtboldkahppdmbaaGreatDoorSA
import Derived.Maps.OwnSet
import Derived.Maps.OwnOps
namespace Go.Proofs.YtboldkahppdmbaaGreatDoor
open Go.RowKit
set_option linter.unusedVariables false
set_option linter.unusedSimpArgs false
/- Joined of several texts: 07n, 07o, 07p. -/
/- Contracts of chapter 7, of the program: a partition's add. -/
/- Contracts of chapter 7, of the program: a partition's add, at a new key. -/
/- Contracts of chapter 7, of the program: divided. -/
/- Contracts of chapter 7, of the reference: l07Classes, BisimulationClasses. -/
/-- the classes of a model's worlds -/
def bcl (ns us : List Nat) (x : Nat) : List Nat × Nat := dvd (fun y => (bnd ns us ns us 16).getD y 0) x
theorem find_first {p : Nat → Bool} {x j : Nat} (hj : j < x) (h : p j = true) (hn : ∀ i, i < j → p i = false) : (List.range x).find? p = some j := by
  rw [List.find?_eq_some_iff_append]
  refine ⟨h, List.range j, (List.range (x - (j + 1))).map (fun i => j + 1 + i), ?_, fun a ha => by rw [List.mem_range] at ha; rw [hn a ha]; rfl⟩
  rw [show x = (j + 1) + (x - (j + 1)) by omega, List.range_add, List.range_succ]
  simp
/- Contracts of BisimulationClasses, of the program: arguments that are no model. -/
end Go.Proofs.YtboldkahppdmbaaGreatDoor

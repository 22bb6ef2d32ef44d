/- Contracts of FixedPointTrace, of the program and of the reference. -/
import Derived.Test.YtkdldfomdbgcaaaGreatB7
import Derived.Deep.RegionWith
import Derived.Deep.CutRange
import Derived.Deep.DeepCutAuto
namespace Go.Proofs.YtkdldfomdbgcaaaGreat
open Go.RowKit
set_option linter.unusedVariables false
set_option linter.unusedSimpArgs false
/-- a variable is guarded, and there is no other one -/
def lone (f : Fm) (s : Nat) : Bool := gd f s && only (enc f) s
theorem wrap_two_pow'' {n : Nat} (h : n ≤ 62) : IntKind.i64.wrap ((2 : Int) ^ n) = ((2 ^ n : Nat) : Int) := by
  have h1 := two_pow_le h
  have h2 : (0 : Int) < 2 ^ n := Int.pow_pos (by decide)
  rw [IntWalk.i64_in _ ⟨by omega, by omega⟩, cast_two_pow]
end Go.Proofs.YtkdldfomdbgcaaaGreat

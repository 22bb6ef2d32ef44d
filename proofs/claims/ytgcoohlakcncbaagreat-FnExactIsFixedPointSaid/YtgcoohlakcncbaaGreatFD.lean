/- Joined of several texts: 05h, 05g. -/
import Derived.Test.YtgcoohlakcncbaaGreat05f
namespace Go.Proofs.YtgcoohlakcncbaaGreat
open Go.RowKit
set_option linter.unusedVariables false
set_option linter.unusedSimpArgs false
/- Contracts of chapter 5: two flags of a frame, of the program. -/
theorem li_eq_iff (a b : List Nat) : decide (li a = li b) = decide (a = b) := by
  have : li a = li b ↔ a = b := by
    unfold li
    constructor
    · intro h
      exact (List.map_inj_right (fun x y h => Int.ofNat.inj h)).1 h
    · intro h; rw [h]
  rw [Bool.eq_iff_iff, decide_eq_true_eq, decide_eq_true_eq, this]
end Go.Proofs.YtgcoohlakcncbaaGreat

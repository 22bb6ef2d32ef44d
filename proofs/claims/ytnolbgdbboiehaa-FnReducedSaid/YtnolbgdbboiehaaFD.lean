/- Joined of several texts: 05h, 05g. -/
import Derived.Test.Ytnolbgdbboiehaa05f
namespace Go.Proofs.Ytnolbgdbboiehaa
open Go.RowKit
set_option linter.unusedVariables false
set_option linter.unusedSimpArgs false
/- Contracts of chapter 5: two flags of a frame, of the reference. -/
theorem q_l01Image {v : Value} {ns : List Nat} {m : Nat} {W : World} (h : Sl cI W v (li ns)) (hr : RelN ns) (hm : m < 256) (n : Nat) :
    Calls Try.prog 60 #[v, .int .i64 m] (W.drewN n) fun e w'' => e = .returned (.int .i64 (img ns m : Nat)) ∧ ∃ m, w'' = W.drewN m :=
  (spec_l01Image v ns m _ (h.drewN n) hr hm).mono fun e w' hh => ⟨hh.1, n, hh.2.symm⟩
/- Contracts of chapter 5: two flags of a frame, of the program. -/
theorem li_eq_iff (a b : List Nat) : decide (li a = li b) = decide (a = b) := by
  have : li a = li b ↔ a = b := by
    unfold li
    constructor
    · intro h
      exact (List.map_inj_right (fun x y h => Int.ofNat.inj h)).1 h
    · intro h; rw [h]
  rw [Bool.eq_iff_iff, decide_eq_true_eq, decide_eq_true_eq, this]
end Go.Proofs.Ytnolbgdbboiehaa

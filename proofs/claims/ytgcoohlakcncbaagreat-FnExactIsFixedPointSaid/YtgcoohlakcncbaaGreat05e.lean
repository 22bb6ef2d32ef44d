/- Contracts of chapters 1 and 5: the transitive closure, of the program and of the reference; bits and images. -/
import Derived.Test.YtgcoohlakcncbaaGreatFC
import Derived.StillTailTactics
namespace Go.Proofs.YtgcoohlakcncbaaGreat
open Go.RowKit
set_option linter.unusedVariables false
set_option linter.unusedSimpArgs false
theorem spec_l01Bit (m i : Nat) (w : World) (hm : m < 9223372036854775808) (hi : i ≤ 63) :
    Calls Tryz.prog 268 #[.int .i64 m, .int .i64 i] w fun e w' => e = .returned (.bool (m.testBit i)) ∧ w = w' := by
  have E := Lib.hid (testBit_form m i hm)
  go_enter Tryz.func268, Tryz.ntmps268
  go_wp2
  go_ret
  exact ⟨by rw [← E.out]; rfl, rfl⟩
end Go.Proofs.YtgcoohlakcncbaaGreat

/- Closed facts on the program that every row of this seat asks, each proved once. -/
import Derived.Test.YtgkogfjifcfkoaaGreatRows
import Derived.JoinedOf
namespace Go.Proofs.YtgkogfjifcfkoaaGreat
set_option maxHeartbeats 4000000
set_option maxRecDepth 100000
theorem and_t {a b : Bool} (ha : a = true) (hb : b = true) : (a && b) = true := by rw [ha, hb]; rfl
theorem q_laid : laidOutB Tryz.pinned.checked.prog = true := by kernel_rfl
theorem q_maps : mapsRowed Tryz.pinned.checked.prog = true := by kernel_rfl
theorem q_keys : (true == Tryz.pinned.checked.prog.plainKeys) = true := by kernel_rfl
theorem q_heard : Tryz.pinned.checked.prog.stopsHeard = true := by kernel_rfl
theorem q_enter : Tryz.pinned.checked.prog.mayEnter = true := by kernel_rfl
theorem q_lift : (false == Tryz.pinned.checked.prog.liftsFinal) = true := by kernel_rfl
theorem q_make : (Tryz.pinned.checked.prog.make == some .cut) = true := by kernel_rfl
end Go.Proofs.YtgkogfjifcfkoaaGreat

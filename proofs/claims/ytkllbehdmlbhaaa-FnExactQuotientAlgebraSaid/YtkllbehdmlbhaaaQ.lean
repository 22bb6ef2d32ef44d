/- Closed facts on the program that every row of this seat asks, each proved once. -/
import Derived.Test.YtkllbehdmlbhaaaRows
import Derived.JoinedOf
namespace Go.Proofs.Ytkllbehdmlbhaaa
set_option maxHeartbeats 4000000
set_option maxRecDepth 100000
theorem and_t {a b : Bool} (ha : a = true) (hb : b = true) : (a && b) = true := by rw [ha, hb]; rfl
theorem q_laid : laidOutB Try.pinned.checked.prog = true := by kernel_rfl
theorem q_maps : mapsRowed Try.pinned.checked.prog = true := by kernel_rfl
theorem q_keys : (true == Try.pinned.checked.prog.plainKeys) = true := by kernel_rfl
theorem q_heard : Try.pinned.checked.prog.stopsHeard = true := by kernel_rfl
theorem q_enter : Try.pinned.checked.prog.mayEnter = true := by kernel_rfl
theorem q_lift : (false == Try.pinned.checked.prog.liftsFinal) = true := by kernel_rfl
theorem q_make : (Try.pinned.checked.prog.make == some .cut) = true := by kernel_rfl
end Go.Proofs.Ytkllbehdmlbhaaa

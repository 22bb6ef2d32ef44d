/- Contracts of chapter 5: flags of a frame, of the program. -/
import Derived.Test.YtgcoohlakcncbaaGreat05e
import Derived.Test.YtgcoohlakcncbaaGreat33u
import Derived.StillTailTactics
namespace Go.Proofs.YtgcoohlakcncbaaGreat
open Go.RowKit
set_option linter.unusedVariables false
set_option linter.unusedSimpArgs false
theorem mems_mem {m n : Nat} (hm : m < 2 ^ n) {x : Int} (hx : x ∈ mems m) : ∃ i : Nat, x = i ∧ i < n := by
  unfold mems memsTo at hx
  rw [List.mem_map] at hx
  obtain ⟨i, hi, rfl⟩ := hx
  rw [List.mem_filter] at hi
  refine ⟨i, rfl, ?_⟩
  rcases Nat.lt_or_ge i n with h | h
  · exact h
  · have := Nat.testBit_lt_two_pow (Nat.lt_of_lt_of_le hm (Nat.pow_le_pow_right (by decide) h))
    rw [this] at hi
    exact absurd hi.2 (by decide)
theorem mems_length (m : Nat) : (mems m).length ≤ 64 := memsTo_length m 64
end Go.Proofs.YtgcoohlakcncbaaGreat

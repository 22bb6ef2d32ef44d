/- Contracts of slices.Grow at nil and of slices.Concat, at nodes. -/
import Derived.Test.Ytbejakkcdbhmaaa32k
import Derived.Test.YtbejakkcdbhmaaaLN
import Derived.Test.Ytbejakkcdbhmaaa03s
import Derived.Lib.AppendZeros
namespace Go.Proofs.Ytbejakkcdbhmaaa
open Go.RowKit
set_option linter.unusedVariables false
set_option linter.unusedSimpArgs false
/-- appending a make to nil: an empty slice of the call's own, with room -/
theorem grown_nil (w : World) (n : Nat) (h0 : 0 < n) (hn : n ≤ 1048576) :
    ∃ w' cap, (∀ (ty : TypeId), (Builtin.append_ #[24, 3] ty #[.slice none 0 0, .int .i64 n]).run Try.prog w = .ok (.slice (some ⟨w.heap.size, 0, none⟩) n cap) w') ∧ n ≤ cap ∧ cap ≤ maxLen ∧
      Ow cN 95 w.heap.size w' (.slice (some ⟨w.heap.size, 0, none⟩) 0 cap) [] ∧ Below w.heap.size w w' := by
  obtain ⟨i, hi, hz, hsize, hby⟩ := ty_node.info
  have hs : i.size = 2 := hsize
  have hb : i.bytes = 16 := hby
  have hge := grownCap_ge w n 0 95
  have hle := grownCap_le_maxLen w n 0 95 (by simp only [maxLen]; omega)
  refine ⟨_, _, fun ty => Lib.run_append_nil_zeros w 24 3 ty 95 i _ .i64 .i64 ty_node.under Try.underlying3 hi hz n h0 (by omega) (by omega) (by rw [hb]; omega), hge, hle, ⟨⟨_, _, rfl, Nat.zero_le _, by have := hle; simp only [maxLen] at this; omega⟩, ?_⟩, ?_⟩
  · refine World.ownsRow_made _ _ _ (Nat.le_refl _) hle ?_
    show _ = grownCap w n 0 95 * 2
    have hc : (Value.agg #[Value.int .i64 0, Value.int .i64 0]).cells.size = 2 := rfl
    simp only [Array.size_append, size_zeroCells, hc]
    omega
  · exact (below_drewN (Below.refl _ _) 1).alloc (Nat.le_refl _) _
theorem slices_Grow_nil (n : Nat) (w : World) (hn : n ≤ 1048576) :
    Calls Try.prog 242 #[.slice none 0 0, .int .i64 n] w fun e w' => ∃ u, e = .returned u ∧ Ow cN 95 w.heap.size w' u [] ∧ Below w.heap.size w w' := by
  by_cases h0 : 0 < n
  · obtain ⟨w1, cap, hr, hge, hle, ho, hb⟩ := grown_nil w n h0 hn
    have hle' : cap ≤ 9223372036854775807 := by simpa only [maxLen] using hle
    have HR := Lib.hid hr; have HO := Lib.hid ho; have HB := Lib.hid hb
    clear hr ho hb
    go_enter Try.func242, Try.ntmps242
    go_wp2_with (at_builtin; refine stopHere ?_)
    refine goHere ?_
    refine Lib.wpList_append_run _ rfl _ _ _ _ rfl _ _ rfl rfl _ _ (HR.out _) ?_
    go_wp2
    go_ret
    exact ⟨_, rfl, HO.out, HB.out⟩
  · obtain rfl : n = 0 := by omega
    go_enter Try.func242, Try.ntmps242
    go_wp2
    go_ret
    exact ⟨_, rfl, Ow.nil _ _, Below.refl _ _⟩
end Go.Proofs.Ytbejakkcdbhmaaa

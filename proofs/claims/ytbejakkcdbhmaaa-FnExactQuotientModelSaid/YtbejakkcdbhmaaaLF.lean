/- Contracts of the laws' own functions on Frames and Traces: comparison of alike ones, marks. -/
import Derived.Test.YtbejakkcdbhmaaaLI
namespace Go.Proofs.Ytbejakkcdbhmaaa
open Go.RowKit
set_option linter.unusedVariables false
set_option linter.unusedSimpArgs false
theorem eq_frame (v u : Value) (n : Int) (xs : List Int) (w : World) (hx : Sl cI w v xs) (hy : Sl cI w u xs) (hn : xs.length ≤ 1073741824) :
    Calls Try.prog 27 #[.agg #[.int .i64 n, v], .agg #[.int .i64 n, u]] w fun e w' => e = .returned (.bool true) ∧ Below w.heap.size w w' := by
  go_enter Try.func27, Try.ntmps27
  go_wp2_with fail
  refine (eq_int64S _ _ xs xs _ ((hx.alloc _).alloc _) ((hy.alloc _).alloc _) hn).mono ?_
  rintro e w1 ⟨rfl, q, rfl⟩
  go_wp2
  go_ret
  exact ⟨rfl, by repeat (first | exact Below.refl _ _ | refine Below.alloc ?_ (by simp <;> omega) _ | refine below_drewN ?_ _)⟩
theorem mark_frame (v : Value) (n : Int) (xs : List Int) (k : Int) (B : Nat) (w : World) (h : Ow cI 2 B w v xs) (hl : xs.length ≤ 1073741824) (hk : 0 ≤ k ∧ k ≤ 1073741824) :
    Calls Try.prog 139 #[.agg #[.int .i64 n, v], .int .i64 k] w fun e w' => e = .returned (.int .i64 (k + xs.length)) ∧ Ow cI 2 B w' v (numL xs.length k) ∧ w.grownBy w' v.ownBlock := by
  go_enter Try.func139, Try.ntmps139
  go_wp2_with fail
  refine (mark_int64S _ xs _ B _ (h.alloc _) hl hk).mono ?_
  rintro e w1 ⟨rfl, ho, hg⟩
  have G := Lib.hid (grown_alloc _ hg); clear hg
  have O := Lib.hid ho; clear ho
  go_wp2
  go_ret
  exact ⟨rfl, O.out, G.out⟩
theorem held_frame (v : Value) (n : Int) (m : Nat) (k : Int) (w : World) (h : Sl cI w v (numL m k)) (hl : m ≤ 1073741824) (hk : 0 ≤ k ∧ k ≤ 1073741824) :
    Calls Try.prog 142 #[.agg #[.int .i64 n, v], .int .i64 k] w fun e w' => e = .returned (.int .i64 (k + m)) ∧ Below w.heap.size w w' := by
  go_enter Try.func142, Try.ntmps142
  go_wp2_with fail
  refine (held_int64S _ _ _ _ (h.alloc _) (by rw [numL_length]; exact hl) hk).mono ?_
  rintro e w1 ⟨rfl, rfl⟩
  rw [heldL_numL]
  go_wp2
  go_ret
  exact ⟨rfl, by repeat (first | exact Below.refl _ _ | refine Below.alloc ?_ (by simp <;> omega) _ | refine below_drewN ?_ _)⟩
end Go.Proofs.Ytbejakkcdbhmaaa

/- The laws' own functions on slices in the one form. -/
import Derived.Test.YtbejakkcdbhmaaaLU
import Derived.Test.YtbejakkcdbhmaaaLF
import Derived.Test.YtbejakkcdbhmaaaLN
namespace Go.Proofs.Ytbejakkcdbhmaaa
open Go.RowKit
set_option linter.unusedVariables false
set_option linter.unusedSimpArgs false
theorem u_sz_SI (v : Value) (xs : List Int) (l : Int) (w : World) (h : Sl cI w v xs) (hl : -1 ≤ l ∧ l ≤ 1048576) :
    Calls Try.prog 91 #[v, .int .i64 l] w fun e w' => e = .returned (.int .i64 (szL l xs.length)) ∧ Below w.heap.size w w' :=
  (sz_int64S v xs l w h hl).mono fun e w' ⟨he, hw⟩ => ⟨he, hw ▸ Below.refl _ _⟩
theorem u_to_SI (v : Value) (xs : List Int) (w : World) (h : Sl cI w v xs) (hl : xs.length ≤ 1048576) :
    Calls Try.prog 25 #[v] w fun e w' => ∃ u, e = .returned u ∧ Ob cI 2 w.heap.size w'.heap.size w' u xs ∧ Below w.heap.size w w' :=
  (to_int64S v xs w h hl).mono fun e w' ⟨u, he, ho, hb⟩ => ⟨u, he, ho.ob, hb⟩
theorem u_eq_SI (v u : Value) (xs : List Int) (w : World) (hx : Sl cI w v xs) (hy : Sl cI w u xs) (hn : xs.length ≤ 268435456) :
    Calls Try.prog 28 #[v, u] w fun e w' => e = .returned (.bool true) ∧ Below w.heap.size w w' :=
  (eq_int64S v u xs xs w hx hy (by omega)).mono fun e w' ⟨he, q, hw⟩ => ⟨by rw [he]; simp, hw ▸ below_drewN (Below.refl _ _) q⟩
theorem u_mark_SI (v : Value) (xs : List Int) (k : Int) (B H : Nat) (w : World) (h : Ob cI 2 B H w v xs) (hl : xs.length ≤ 268435456) (hk : 0 ≤ k ∧ k ≤ 268435456) :
    Calls Try.prog 63 #[v, .int .i64 k] w fun e w' => e = .returned (.int .i64 (k + xs.length)) ∧ Ob cI 2 B H w' v (numL xs.length k) ∧ Keep B H w w' :=
  (mark_int64S v xs k B w h.1 (by omega) (by omega)).mono fun e w' ⟨he, ho, hg⟩ => ⟨he, h.inv ho, Keep.of_grown hg fun g hk => ⟨(h.1.block g hk).1, h.2 g hk⟩⟩
theorem u_held_SI (v : Value) (m : Nat) (k : Int) (w : World) (h : Sl cI w v (numL m k)) (hl : m ≤ 268435456) (hk : 0 ≤ k ∧ k ≤ 268435456) :
    Calls Try.prog 64 #[v, .int .i64 k] w fun e w' => e = .returned (.int .i64 (k + m)) ∧ Below w.heap.size w w' :=
  (held_int64S v _ k w h (by rw [numL_length]; omega) (by omega)).mono fun e w' ⟨he, hw⟩ => ⟨by rw [he, heldL_numL], hw ▸ Below.refl _ _⟩
theorem u_sz_SN (v : Value) (xs : List Nd) (l : Int) (w : World) (h : Sl cN w v xs) (hl : -1 ≤ l ∧ l ≤ 1048576) :
    Calls Try.prog 15 #[v, .int .i64 l] w fun e w' => e = .returned (.int .i64 (szL l xs.length)) ∧ Below w.heap.size w w' :=
  (sz_nodeS v xs l w h hl).mono fun e w' ⟨he, hw⟩ => ⟨he, hw ▸ Below.refl _ _⟩
theorem u_to_SN (v : Value) (xs : List Nd) (w : World) (h : Sl cN w v xs) (hl : xs.length ≤ 1048576) :
    Calls Try.prog 17 #[v] w fun e w' => ∃ u, e = .returned u ∧ Ob cN 95 w.heap.size w'.heap.size w' u xs ∧ Below w.heap.size w w' :=
  (to_nodeS v xs w h hl).mono fun e w' ⟨u, he, ho, hb⟩ => ⟨u, he, ho.ob, hb⟩
theorem u_eq_SN (v u : Value) (xs : List Nd) (w : World) (hx : Sl cN w v xs) (hy : Sl cN w u xs) (hn : xs.length ≤ 268435456) :
    Calls Try.prog 19 #[v, u] w fun e w' => e = .returned (.bool true) ∧ Below w.heap.size w w' := eq_nodeS v u xs w hx hy (by omega)
theorem u_mark_SN (v : Value) (xs : List Nd) (k : Int) (B H : Nat) (w : World) (h : Ob cN 95 B H w v xs) (hl : xs.length ≤ 268435456) (hk : 0 ≤ k ∧ k ≤ 268435456) :
    Calls Try.prog 20 #[v, .int .i64 k] w fun e w' => e = .returned (.int .i64 (k + 2 * xs.length)) ∧ Ob cN 95 B H w' v (numN xs.length k) ∧ Keep B H w w' :=
  (mark_nodeS v xs k B w h.1 (by omega) (by omega)).mono fun e w' ⟨he, ho, hg⟩ => ⟨he, h.inv ho, Keep.of_grown hg fun g hk => ⟨(h.1.block g hk).1, h.2 g hk⟩⟩
theorem u_held_SN (v : Value) (m : Nat) (k : Int) (w : World) (h : Sl cN w v (numN m k)) (hl : m ≤ 268435456) (hk : 0 ≤ k ∧ k ≤ 268435456) :
    Calls Try.prog 21 #[v, .int .i64 k] w fun e w' => e = .returned (.int .i64 (k + 2 * m)) ∧ Below w.heap.size w w' :=
  (held_nodeS v m k w h hl (by omega)).mono fun e w' ⟨he, hw⟩ => ⟨he, hw ▸ Below.refl _ _⟩
end Go.Proofs.Ytbejakkcdbhmaaa

/- Contracts of FormulaOfTrace, of the program and of the reference. -/
import Derived.Test.Ytbejakkcdbhmaaa03h
import Derived.Test.Ytbejakkcdbhmaaa32z3
namespace Go.Proofs.Ytbejakkcdbhmaaa
open Go.RowKit
set_option linter.unusedVariables false
set_option linter.unusedSimpArgs false
theorem okT_short' {xs : List Int} (h : okT xs = true) : xs.length ≤ 61 := by
  have key : ∀ i : Nat, i < xs.length → (i : Int) ≤ xs.getD i 0 ∧ xs.getD i 0 ≤ 60 := by
    intro i
    induction i with
    | zero => intro hi; have := okT_at h hi; simp only [goodT, inR, Bool.and_eq_true, decide_eq_true_eq] at this; omega
    | succ k ih =>
      intro hi
      have h1 := ih (by omega)
      have := okT_at h hi
      simp only [goodT, inR, Bool.and_eq_true, Bool.or_eq_true, decide_eq_true_eq, Nat.add_sub_cancel] at this
      omega
  rcases Nat.lt_or_ge 61 xs.length with hq | hq
  · have := key 61 hq; omega
  · exact hq
theorem impl_formula (b : Bool) (v : Value) (xs : List Int) (w : World) (h : Sl cI w v xs) (hc : okT xs = true) :
    Calls Try.prog 124 #[.agg #[.bool b, v]] w fun e w' => ∃ u, e = .returned u ∧ Ow cN 95 w.heap.size w' u (outL b xs) ∧ Below w.heap.size w w' := by
  cases b
  · exact impl_formula_false v xs w h (okT_short' hc) (fun x hx => okT_mem hc hx)
  · exact impl_formula_true v xs w h (okT_short' hc) (fun x hx => okT_mem hc hx)
theorem spec_formula (b : Bool) (v : Value) (xs : List Int) (w : World) (h : Sl cI w v xs) (hc : okT xs = true) :
    Calls Try.prog 120 #[.agg #[.bool b, v]] w fun e w' => ∃ u, e = .returned (.tuple #[u, .int .i64 (madeC (outL b xs))]) ∧ Ow cN 95 w.heap.size w' u (madeL (outL b xs)) ∧ Below w.heap.size w w' := by
  cases b
  · exact spec_l32Formula_false v xs w h (okT_short' hc) (fun x hx => okT_mem hc hx)
  · exact spec_l32Formula_true v xs w h (okT_short' hc) (fun x hx => okT_mem hc hx)
end Go.Proofs.Ytbejakkcdbhmaaa

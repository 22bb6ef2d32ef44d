/- Contracts of FormulaOfTrace, of the program and of the reference. -/
import Derived.Test.Ytbmknlfpaggbnaa03h
import Derived.Test.Ytbmknlfpaggbnaa32z3
namespace Go.Proofs.Ytbmknlfpaggbnaa
open Go.RowKit
set_option linter.unusedVariables false
set_option linter.unusedSimpArgs false
theorem okT_short' {xs : List Int} (h : okT xs = true) : xs.length ≤ 61 := by
  have key : ∀ i : Nat, i < xs.length → (i : Int) ≤ xs.getD i 0 ∧ xs.getD i 0 ≤ 60 := by
    intro i
    induction i with
    | zero => intro hi; have := okT_at h hi; simp only [goodT, inR, Bool.and_eq_true, decide_eq_true_eq] at this; omega
    | succ k ih =>
      intro hi
      have h1 := ih (by omega)
      have := okT_at h hi
      simp only [goodT, inR, Bool.and_eq_true, Bool.or_eq_true, decide_eq_true_eq, Nat.add_sub_cancel] at this
      omega
  rcases Nat.lt_or_ge 61 xs.length with hq | hq
  · have := key 61 hq; omega
  · exact hq
theorem impl_formula (b : Bool) (v : Value) (xs : List Int) (w : World) (h : Sl cI w v xs) (hc : okT xs = true) :
    Calls Try.prog 87 #[.agg #[.bool b, v]] w fun e w' => ∃ u, e = .returned u ∧ Ow cN 68 w.heap.size w' u (outL b xs) ∧ Below w.heap.size w w' := by
  cases b
  · exact impl_formula_false v xs w h (okT_short' hc) (fun x hx => okT_mem hc hx)
  · exact impl_formula_true v xs w h (okT_short' hc) (fun x hx => okT_mem hc hx)
theorem spec_formula (b : Bool) (v : Value) (xs : List Int) (w : World) (h : Sl cI w v xs) (hc : okT xs = true) :
    Calls Try.prog 86 #[.agg #[.bool b, v]] w fun e w' => ∃ u, e = .returned (.tuple #[u, .int .i64 (madeC (outL b xs))]) ∧ Ow cN 68 w.heap.size w' u (madeL (outL b xs)) ∧ Below w.heap.size w w' := by
  cases b
  · exact spec_l32Formula_false v xs w h (okT_short' hc) (fun x hx => okT_mem hc hx)
  · exact spec_l32Formula_true v xs w h (okT_short' hc) (fun x hx => okT_mem hc hx)
theorem impl_FormulaOfTrace_bad (v : Value) (b : Bool) (xs : List Int) (w : World) (h : Sl cI w v xs) (hl : xs.length ≤ 1048576) (hc : okT xs = false) :
    Calls Try.prog 49 #[.agg #[.bool b, v]] w fun e w' => e = .returned (.tuple #[.slice none 0 0, .int .i64 1]) ∧ Below w.heap.size w w' := by
  obtain ⟨A, c, rfl⟩ := h.opn
  have H1 := Lib.hid (hc ▸ impl_isTrace _ b xs _ (h.alloc (.cells #[.bool b, .slice A xs.length c] 33)) hl)
  clear hc h
  go_enter Try.func49, Try.ntmps49
  go_wp2_with fail
  refine H1.out.mono ?_
  rintro e w1 ⟨rfl, hb⟩
  have HB : Hid (Below w.heap.size w w1) := Lib.hid (((Below.refl _ _).alloc (Nat.le_refl _) _).trans (hb.mono (by simp)))
  clear hb
  go_wp2
  go_ret2
  exact ⟨rfl, HB.out⟩
theorem impl_FormulaOfTrace_ok (v : Value) (b : Bool) (xs : List Int) (w : World) (h : Sl cI w v xs) (hl : xs.length ≤ 1048576) (hc : okT xs = true) :
    Calls Try.prog 49 #[.agg #[.bool b, v]] w fun e w' => ∃ u, e = .returned (.tuple #[u, .int .i64 (madeC (outL b xs))]) ∧ Ow cN 68 w.heap.size w' u (madeL (outL b xs)) ∧ Below w.heap.size w w' := by
  obtain ⟨A, c, rfl⟩ := h.opn
  have H0 := Lib.hid h
  have HC := Lib.hid hc
  have H1 := Lib.hid (hc ▸ impl_isTrace _ b xs _ (h.alloc (.cells #[.bool b, .slice A xs.length c] 33)) hl)
  clear hc h
  go_enter Try.func49, Try.ntmps49
  go_wp2_with fail
  refine H1.out.mono ?_
  rintro e w1 ⟨rfl, hb⟩
  have f0 := (Blk.new w 33 #[.bool b, .slice A xs.length c]).below hb (by simp)
  obtain ⟨i1, i2, i3⟩ := And.intro f0.cell (And.intro f0.frozen f0.lt)
  have HB : Hid (Below w.heap.size w w1) := Lib.hid (((Below.refl _ _).alloc (Nat.le_refl _) _).trans (hb.mono (by simp)))
  clear hb f0
  go_wp2_with fail
  refine (impl_formula b _ xs _ (H0.out.below HB.out) HC.out).mono ?_
  rintro e w2 ⟨u, rfl, ho, hb⟩
  have HB2 := Lib.hid (bthen HB.out hb)
  have hz := HB.out.size
  have O := Lib.hid ho
  clear ho hb i1 i2
  go_wp2_with fail
  refine (impl_limited _ _ _ _ O.out).mono ?_
  rintro e w3 ⟨r, rfl, ho, rfl⟩
  have O2 := Lib.hid (ho.mono hz)
  clear ho
  go_wp2
  go_ret2
  exact ⟨_, rfl, O2.out, HB2.out⟩
theorem spec_FormulaOfTrace_bad (v : Value) (b : Bool) (xs : List Int) (w : World) (h : Sl cI w v xs) (hl : xs.length ≤ 1048576) (hc : okT xs = false) :
    Calls Try.prog 48 #[.agg #[.bool b, v]] w fun e w' => e = .returned (.tuple #[.slice none 0 0, .int .i64 1]) ∧ Below w.heap.size w w' := by
  obtain ⟨A, c, rfl⟩ := h.opn
  have H1 := Lib.hid (hc ▸ spec_l32Valid _ b xs _ (h.alloc (.cells #[.bool b, .slice A xs.length c] 33)) hl)
  clear hc h
  go_enter Try.func48, Try.ntmps48
  go_wp2_with fail
  refine H1.out.mono ?_
  rintro e w1 ⟨rfl, hb⟩
  have HB : Hid (Below w.heap.size w w1) := Lib.hid (((Below.refl _ _).alloc (Nat.le_refl _) _).trans (hb.mono (by simp)))
  clear hb
  go_wp2
  go_ret2
  exact ⟨rfl, HB.out⟩
theorem spec_FormulaOfTrace_ok (v : Value) (b : Bool) (xs : List Int) (w : World) (h : Sl cI w v xs) (hl : xs.length ≤ 1048576) (hc : okT xs = true) :
    Calls Try.prog 48 #[.agg #[.bool b, v]] w fun e w' => ∃ u, e = .returned (.tuple #[u, .int .i64 (madeC (outL b xs))]) ∧ Ow cN 68 w.heap.size w' u (madeL (outL b xs)) ∧ Below w.heap.size w w' := by
  obtain ⟨A, c, rfl⟩ := h.opn
  have H0 := Lib.hid h
  have HC := Lib.hid hc
  have H1 := Lib.hid (hc ▸ spec_l32Valid _ b xs _ (h.alloc (.cells #[.bool b, .slice A xs.length c] 33)) hl)
  clear hc h
  go_enter Try.func48, Try.ntmps48
  go_wp2_with fail
  refine H1.out.mono ?_
  rintro e w1 ⟨rfl, hb⟩
  have f0 := (Blk.new w 33 #[.bool b, .slice A xs.length c]).below hb (by simp)
  obtain ⟨i1, i2, i3⟩ := And.intro f0.cell (And.intro f0.frozen f0.lt)
  have HB : Hid (Below w.heap.size w w1) := Lib.hid (((Below.refl _ _).alloc (Nat.le_refl _) _).trans (hb.mono (by simp)))
  clear hb f0
  go_wp2_with fail
  refine (spec_formula b _ xs _ (H0.out.below HB.out) HC.out).mono ?_
  rintro e w2 ⟨u, rfl, ho, hb⟩
  have HB2 := Lib.hid (bthen HB.out hb)
  have hz := HB.out.size
  have O2 := Lib.hid (ho.mono hz)
  clear ho hb i1 i2
  go_wp2
  go_ret2
  exact ⟨_, rfl, O2.out, HB2.out⟩
end Go.Proofs.Ytbmknlfpaggbnaa

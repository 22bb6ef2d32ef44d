/- The walk of the law FnExactAreLetterlessEqual, written by program: it returns true and writes nothing that was there. -/
import Derived.Test.YtbmknlfpaggbnaaLUs
import Derived.Test.Ytbmknlfpaggbnaa32u
namespace Go.Proofs.Ytbmknlfpaggbnaa
open Go.RowKit
set_option linter.unusedVariables false
set_option linter.unusedSimpArgs false
theorem walk_AreLetterlessEqual (vA_0 : Value) (aA_x0 : List Nd) (vB_0 : Value) (aB_x0 : List Nd) (r0_x0 : Bool) (r1_x0 : Int) (w : World) (hA_0 : Sl cN w vA_0 aA_x0) (hB_0 : Sl cN w vB_0 aB_x0) 
    (HS : Hid (aA_x0.length + aB_x0.length ≤ 1048576 → ∀ (W : World) (vA_0 : Value) (vB_0 : Value), Sl cN W vA_0 aA_x0 → Sl cN W vB_0 aB_x0 → Calls Try.prog 40 #[vA_0, vB_0] W fun e w' => e = .returned (.tuple #[.bool r0_x0, .int .i64 r1_x0]) ∧ Below W.heap.size W w'))
    (HI : Hid (aA_x0.length + aB_x0.length ≤ 1048576 → ∀ (W : World) (vA_0 : Value) (vB_0 : Value), Sl cN W vA_0 aA_x0 → Sl cN W vB_0 aB_x0 → Calls Try.prog 41 #[vA_0, vB_0] W fun e w' => e = .returned (.tuple #[.bool r0_x0, .int .i64 r1_x0]) ∧ Below W.heap.size W w')) :
    Calls Try.prog 9 #[vA_0, vB_0] w fun e w' => e = .returned (.bool true) ∧ Below w.heap.size w w' := by
  rcases Nat.lt_or_ge 1048576 (aA_x0.length) with q0 | q0
  · have A := Below.refl w.heap.size w
    go_enter Try.func9, Try.ntmps9
    go_wp2_with fail
    refine (u_sz_SN _ aA_x0 _ _ (hA_0.below A) (by omega)).mono ?_
    rintro e w1 ⟨rfl, hb⟩
    replace A := A.trans (hb.mono A.size)
    have z1 := hb.size
    clear hb
    rw [szL_neg (by omega)]
    have BB := Lib.hid A; clear A
    go_wp2
    go_ret
    exact ⟨rfl, BB.out⟩
  rcases Nat.lt_or_ge 1048576 (aA_x0.length + aB_x0.length) with q1 | q1
  · have A := Below.refl w.heap.size w
    go_enter Try.func9, Try.ntmps9
    go_wp2_with fail
    refine (u_sz_SN _ aA_x0 _ _ (hA_0.below A) (by omega)).mono ?_
    rintro e w1 ⟨rfl, hb⟩
    replace A := A.trans (hb.mono A.size)
    have z1 := hb.size
    clear hb
    rw [szL_pos (by omega)]
    go_wp2_with fail
    refine (u_sz_SN _ aB_x0 _ _ (hB_0.below A) (by omega)).mono ?_
    rintro e w2 ⟨rfl, hb⟩
    replace A := A.trans (hb.mono A.size)
    have z2 := hb.size
    clear hb
    rw [szL_neg (by omega)]
    have BB := Lib.hid A; clear A
    go_wp2
    go_ret
    exact ⟨rfl, BB.out⟩
  have HS := Lib.hid (HS.out (by omega))
  have HI := Lib.hid (HI.out (by omega))
  have A := Below.refl w.heap.size w
  go_enter Try.func9, Try.ntmps9
  go_wp2_with fail
  refine (u_sz_SN _ aA_x0 _ _ (hA_0.below A) (by omega)).mono ?_
  rintro e w1 ⟨rfl, hb⟩
  replace A := A.trans (hb.mono A.size)
  have z1 := hb.size
  clear hb
  rw [szL_pos (by omega)]
  go_wp2_with fail
  refine (u_sz_SN _ aB_x0 _ _ (hB_0.below A) (by omega)).mono ?_
  rintro e w2 ⟨rfl, hb⟩
  replace A := A.trans (hb.mono A.size)
  have z2 := hb.size
  clear hb
  rw [szL_pos (by omega)]
  go_wp2_with fail
  refine (u_to_SN _ aA_x0 _ (hA_0.below A) (by omega)).mono ?_
  rintro e w3 ⟨tA_v0, rfl, o3_0, hb⟩
  replace A := A.trans (hb.mono A.size)
  have z3 := hb.size
  clear hb
  go_wp2_with fail
  refine (u_to_SN _ aB_x0 _ (hB_0.below A) (by omega)).mono ?_
  rintro e w4 ⟨tB_v0, rfl, o4_0, hb⟩
  replace o3_0 := o3_0.below hb
  replace A := A.trans (hb.mono A.size)
  have z4 := hb.size
  clear hb
  go_wp2_with fail
  refine (HS.out _ _ _ o3_0.sl o4_0.sl).mono ?_
  rintro e w5 ⟨rfl, hb⟩
  replace o3_0 := o3_0.below hb
  replace o4_0 := o4_0.below hb
  replace A := A.trans (hb.mono A.size)
  have z5 := hb.size
  clear hb
  clear o3_0
  clear o4_0
  go_wp2_with fail
  refine (u_to_SN _ aA_x0 _ (hA_0.below A) (by omega)).mono ?_
  rintro e w6 ⟨xA_v0, rfl, o6_0, hb⟩
  replace A := A.trans (hb.mono A.size)
  have z6 := hb.size
  clear hb
  go_wp2_with fail
  refine (u_to_SN _ aB_x0 _ (hB_0.below A) (by omega)).mono ?_
  rintro e w7 ⟨xB_v0, rfl, o7_0, hb⟩
  replace o6_0 := o6_0.below hb
  replace A := A.trans (hb.mono A.size)
  have z7 := hb.size
  clear hb
  go_wp2_with fail
  refine (HI.out _ _ _ o6_0.sl o7_0.sl).mono ?_
  rintro e w8 ⟨rfl, hb⟩
  replace o6_0 := o6_0.below hb
  replace o7_0 := o7_0.below hb
  replace A := A.trans (hb.mono A.size)
  have z8 := hb.size
  clear hb
  go_wp2_with fail
  refine (u_to_SN _ aA_x0 _ (hA_0.below A) (by omega)).mono ?_
  rintro e w9 ⟨yA_v0, rfl, o9_0, hb⟩
  replace o6_0 := o6_0.below hb
  replace o7_0 := o7_0.below hb
  replace A := A.trans (hb.mono A.size)
  have z9 := hb.size
  clear hb
  go_wp2_with fail
  refine (u_eq_SN _ _ aA_x0 _ o6_0.sl o9_0.sl (by omega)).mono ?_
  rintro e w10 ⟨rfl, hb⟩
  replace o6_0 := o6_0.below hb
  replace o7_0 := o7_0.below hb
  replace o9_0 := o9_0.below hb
  replace A := A.trans (hb.mono A.size)
  have z10 := hb.size
  clear hb
  clear o9_0
  go_wp2_with fail
  refine (u_to_SN _ aB_x0 _ (hB_0.below A) (by omega)).mono ?_
  rintro e w11 ⟨yB_v0, rfl, o11_0, hb⟩
  replace o6_0 := o6_0.below hb
  replace o7_0 := o7_0.below hb
  replace A := A.trans (hb.mono A.size)
  have z11 := hb.size
  clear hb
  go_wp2_with fail
  refine (u_eq_SN _ _ aB_x0 _ o7_0.sl o11_0.sl (by omega)).mono ?_
  rintro e w12 ⟨rfl, hb⟩
  replace o6_0 := o6_0.below hb
  replace o7_0 := o7_0.below hb
  replace o11_0 := o11_0.below hb
  replace A := A.trans (hb.mono A.size)
  have z12 := hb.size
  clear hb
  clear o11_0
  have BB := Lib.hid A; clear A
  clear o6_0 o7_0
  go_wp2
  go_ret
  exact ⟨rfl, BB.out⟩
theorem lcode_two {xs ys : List Nd} (h : lcode [xs, ys] = 0) : (∃ f : Fm, xs = enc f ∧ f.novar = true ∧ (enc f).length ≤ 40) ∧ ∃ g : Fm, ys = enc g ∧ g.novar = true ∧ (enc g).length ≤ 40 := by
  simp only [lcode, List.all_cons, List.all_nil, Bool.and_true] at h
  by_cases h1 : (isF xs && isF ys) = true
  · by_cases h2 : (letterless xs && letterless ys) = true
    · simp only [Bool.and_eq_true] at h1 h2
      exact ⟨letterless_fm h1.1 h2.1, letterless_fm h1.2 h2.2⟩
    · rw [if_pos h1, if_neg h2] at h; exact absurd h (by decide)
  · rw [if_neg h1] at h; exact absurd h (by decide)
theorem final_AreLetterlessEqual (v : Value) (xs : List Nd) (u : Value) (ys : List Nd) (w : World) (h : Sl cN w v xs) (h' : Sl cN w u ys) :
    Calls Try.prog 9 #[v, u] w fun e w' => e = .returned (.bool true) ∧ Below w.heap.size w w' := by
  by_cases hc : lcode [xs, ys] = 0
  · obtain ⟨⟨f, rfl, hv, hl⟩, g, rfl, hv', hl'⟩ := lcode_two hc
    exact walk_AreLetterlessEqual v _ u _ (alike (rk f 0) (rk g 0)) 0 w h h' (Lib.hid fun _ W a b ha hb => spec_AreLetterlessEqual_ok a b f g W ha hb hl hl' hc hv hv') (Lib.hid fun _ W a b ha hb => impl_AreLetterlessEqual_ok a b f g W ha hb hl hl' hc)
  · exact walk_AreLetterlessEqual v _ u _ false (lcode [xs, ys]) w h h' (Lib.hid fun hl W a b ha hb => spec_AreLetterlessEqual_bad a b xs ys W ha hb (by omega) (by omega) hc) (Lib.hid fun hl W a b ha hb => impl_AreLetterlessEqual_bad a b xs ys W ha hb (by omega) (by omega) hc)
end Go.Proofs.Ytbmknlfpaggbnaa

/- The walk of the law FnExactReplaceOuter, written by program: it returns true and writes nothing that was there. -/
import Derived.Test.YtgdmfihnbbgcoaaLB
import Derived.Test.YtgdmfihnbbgcoaaNN
import Derived.Test.Ytgdmfihnbbgcoaa33R
namespace Go.Proofs.Ytgdmfihnbbgcoaa
open Go.RowKit
set_option linter.unusedVariables false
set_option linter.unusedSimpArgs false
set_option maxHeartbeats 1000000 in
set_option maxRecDepth 100000 in
theorem walk_ReplaceOuter (vA_0 : Value) (aA_x0 : List Nd) (aV_x0 : Int) (vI_0 : Value) (aI_x0 : List (List Nd)) (r0_x0 : List Nd) (r1_x0 : Int) (w : World) (hA_0 : Sl cN w vA_0 aA_x0) (hI_0 : Sl2 cN w vI_0 aI_x0) (hr0_0 : r0_x0.length ≤ 1048576)
    (HS : Hid (aA_x0.length + tot aI_x0 ≤ 1048576 → ∀ (W : World) (vA_0 : Value) (vI_0 : Value), Sl cN W vA_0 aA_x0 → Sl2 cN W vI_0 aI_x0 → Calls Try.prog 11 #[vA_0, .int .i64 aV_x0, vI_0] W fun e w' => ∃ u0_0 : Value, e = .returned (.tuple #[u0_0, .int .i64 r1_x0]) ∧ Ob cN 89 W.heap.size w'.heap.size w' u0_0 r0_x0 ∧ Below W.heap.size W w'))
    (HI : Hid (aA_x0.length + tot aI_x0 ≤ 1048576 → ∀ (W : World) (vA_0 : Value) (vI_0 : Value), Sl cN W vA_0 aA_x0 → Sl2 cN W vI_0 aI_x0 → Calls Try.prog 14 #[vA_0, .int .i64 aV_x0, vI_0] W fun e w' => ∃ u0_0 : Value, e = .returned (.tuple #[u0_0, .int .i64 r1_x0]) ∧ Ob cN 89 W.heap.size w'.heap.size w' u0_0 r0_x0 ∧ Below W.heap.size W w')) :
    Calls Try.prog 3 #[vA_0, .int .i64 aV_x0, vI_0] w fun e w' => e = .returned (.bool true) ∧ Below w.heap.size w w' := by
  rcases Nat.lt_or_ge 1048576 (aA_x0.length) with q0 | q0
  · have hSI_0 := sumL_tot aI_x0
    have A := Below.refl w.heap.size w
    go_enter Try.func3, Try.ntmps3
    go_wp2_with fail
    refine (u_sz_SN _ aA_x0 _ _ (hA_0.below A) (by omega)).mono ?_
    rintro e w1 ⟨rfl, hb⟩
    replace A := A.trans (hb.mono A.size)
    have z1 := hb.size
    clear hb
    rw [szL_neg (by omega)]
    have BB := Lib.hid A; clear A
    go_wp2
    go_ret
    exact ⟨rfl, BB.out⟩
  rcases Nat.lt_or_ge 1048576 (aA_x0.length + tot aI_x0) with q1 | q1
  · have hSI_0 := sumL_tot aI_x0
    have A := Below.refl w.heap.size w
    go_enter Try.func3, Try.ntmps3
    go_wp2_with fail
    refine (u_sz_SN _ aA_x0 _ _ (hA_0.below A) (by omega)).mono ?_
    rintro e w1 ⟨rfl, hb⟩
    replace A := A.trans (hb.mono A.size)
    have z1 := hb.size
    clear hb
    rw [szL_pos (by omega)]
    go_wp2_with fail
    refine (u_sz_SSN _ aI_x0 _ _ (hI_0.below A) (by omega)).mono ?_
    rintro e w2 ⟨rfl, hb⟩
    replace A := A.trans (hb.mono A.size)
    have z2 := hb.size
    clear hb
    rw [szL_neg (by omega)]
    have BB := Lib.hid A; clear A
    go_wp2
    go_ret
    exact ⟨rfl, BB.out⟩
  have HS := Lib.hid (HS.out (by omega))
  have HI := Lib.hid (HI.out (by omega))
  have hSI_0 := sumL_tot aI_x0
  have A := Below.refl w.heap.size w
  go_enter Try.func3, Try.ntmps3
  go_wp2_with fail
  refine (u_sz_SN _ aA_x0 _ _ (hA_0.below A) (by omega)).mono ?_
  rintro e w1 ⟨rfl, hb⟩
  replace A := A.trans (hb.mono A.size)
  have z1 := hb.size
  clear hb
  rw [szL_pos (by omega)]
  go_wp2_with fail
  refine (u_sz_SSN _ aI_x0 _ _ (hI_0.below A) (by omega)).mono ?_
  rintro e w2 ⟨rfl, hb⟩
  replace A := A.trans (hb.mono A.size)
  have z2 := hb.size
  clear hb
  rw [szL_pos (by omega)]
  go_wp2_with fail
  refine (u_to_SN _ aA_x0 _ (hA_0.below A) (by omega)).mono ?_
  rintro e w3 ⟨tA_v0, rfl, o3_0, hb⟩
  replace A := A.trans (hb.mono A.size)
  have z3 := hb.size
  clear hb
  go_wp2_with fail
  refine (u_to_SSN _ aI_x0 _ (hI_0.below A) (by omega)).mono ?_
  rintro e w4 ⟨tI_v0, rfl, o4_0, hb⟩
  replace o3_0 := o3_0.below hb
  replace A := A.trans (hb.mono A.size)
  have z4 := hb.size
  clear hb
  go_wp2_with fail
  refine (HS.out _ _ _ o3_0.sl o4_0.sl).mono ?_
  rintro e w5 ⟨w0_v0, rfl, r5_w0_0, hb⟩
  replace o3_0 := o3_0.below hb
  replace o4_0 := o4_0.below hb
  replace A := A.trans (hb.mono A.size)
  have z5 := hb.size
  clear hb
  clear o3_0
  clear o4_0
  go_wp2_with fail
  refine (u_to_SN _ aA_x0 _ (hA_0.below A) (by omega)).mono ?_
  rintro e w6 ⟨xA_v0, rfl, o6_0, hb⟩
  replace r5_w0_0 := r5_w0_0.below hb
  replace A := A.trans (hb.mono A.size)
  have z6 := hb.size
  clear hb
  go_wp2_with fail
  refine (u_to_SSN _ aI_x0 _ (hI_0.below A) (by omega)).mono ?_
  rintro e w7 ⟨xI_v0, rfl, o7_0, hb⟩
  replace r5_w0_0 := r5_w0_0.below hb
  replace o6_0 := o6_0.below hb
  replace A := A.trans (hb.mono A.size)
  have z7 := hb.size
  clear hb
  go_wp2_with fail
  refine (HI.out _ _ _ o6_0.sl o7_0.sl).mono ?_
  rintro e w8 ⟨g0_v0, rfl, r8_g0_0, hb⟩
  replace r5_w0_0 := r5_w0_0.below hb
  replace o6_0 := o6_0.below hb
  replace o7_0 := o7_0.below hb
  replace A := A.trans (hb.mono A.size)
  have z8 := hb.size
  clear hb
  go_wp2_with fail
  refine (u_eq_SN _ _ r0_x0 _ r8_g0_0.sl r5_w0_0.sl (by omega)).mono ?_
  rintro e w9 ⟨rfl, hb⟩
  replace r5_w0_0 := r5_w0_0.below hb
  replace o6_0 := o6_0.below hb
  replace o7_0 := o7_0.below hb
  replace r8_g0_0 := r8_g0_0.below hb
  replace A := A.trans (hb.mono A.size)
  have z9 := hb.size
  clear hb
  go_wp2_with fail
  refine (u_to_SN _ aA_x0 _ (hA_0.below A) (by omega)).mono ?_
  rintro e w10 ⟨yA_v0, rfl, o10_0, hb⟩
  replace r5_w0_0 := r5_w0_0.below hb
  replace o6_0 := o6_0.below hb
  replace o7_0 := o7_0.below hb
  replace r8_g0_0 := r8_g0_0.below hb
  replace A := A.trans (hb.mono A.size)
  have z10 := hb.size
  clear hb
  go_wp2_with fail
  refine (u_eq_SN _ _ aA_x0 _ o6_0.sl o10_0.sl (by omega)).mono ?_
  rintro e w11 ⟨rfl, hb⟩
  replace r5_w0_0 := r5_w0_0.below hb
  replace o6_0 := o6_0.below hb
  replace o7_0 := o7_0.below hb
  replace r8_g0_0 := r8_g0_0.below hb
  replace o10_0 := o10_0.below hb
  replace A := A.trans (hb.mono A.size)
  have z11 := hb.size
  clear hb
  clear o10_0
  go_wp2_with fail
  refine (u_to_SSN _ aI_x0 _ (hI_0.below A) (by omega)).mono ?_
  rintro e w12 ⟨yI_v0, rfl, o12_0, hb⟩
  replace r5_w0_0 := r5_w0_0.below hb
  replace o6_0 := o6_0.below hb
  replace o7_0 := o7_0.below hb
  replace r8_g0_0 := r8_g0_0.below hb
  replace A := A.trans (hb.mono A.size)
  have z12 := hb.size
  clear hb
  go_wp2_with fail
  refine (u_eq_SSN _ _ aI_x0 _ o7_0.sl o12_0.sl (by omega)).mono ?_
  rintro e w13 ⟨rfl, hb⟩
  replace r5_w0_0 := r5_w0_0.below hb
  replace o6_0 := o6_0.below hb
  replace o7_0 := o7_0.below hb
  replace r8_g0_0 := r8_g0_0.below hb
  replace o12_0 := o12_0.below hb
  replace A := A.trans (hb.mono A.size)
  have z13 := hb.size
  clear hb
  clear o12_0
  go_wp2_with fail
  refine (u_mark_SN _ aA_x0 _ _ _ _ o6_0 (by omega) (by omega)).mono ?_
  rintro e w14 ⟨rfl, no6_0, hk⟩
  replace r5_w0_0 := r5_w0_0.keep hk (by omega)
  replace o7_0 := o7_0.keep hk (by omega)
  replace r8_g0_0 := r8_g0_0.keep hk (by omega)
  clear o6_0; have o6_0 := no6_0; clear no6_0
  replace A := below_keep A hk (by omega) A.size
  have z14 := hk.size
  clear hk
  go_wp2_with fail
  refine (u_mark_SSN _ aI_x0 _ _ _ _ o7_0 (by omega) (by omega)).mono ?_
  rintro e w15 ⟨rfl, hk⟩
  replace r5_w0_0 := r5_w0_0.keep hk (by omega)
  replace o6_0 := o6_0.keep hk (by omega)
  replace r8_g0_0 := r8_g0_0.keep hk (by omega)
  clear o7_0
  replace A := below_keep A hk (by omega) A.size
  have z15 := hk.size
  clear hk
  go_wp2_with fail
  refine (u_eq_SN _ _ r0_x0 _ r8_g0_0.sl r5_w0_0.sl (by omega)).mono ?_
  rintro e w16 ⟨rfl, hb⟩
  replace r5_w0_0 := r5_w0_0.below hb
  replace o6_0 := o6_0.below hb
  replace r8_g0_0 := r8_g0_0.below hb
  replace A := A.trans (hb.mono A.size)
  have z16 := hb.size
  clear hb
  clear o6_0
  go_wp2_with fail
  refine (u_mark_SN _ r0_x0 _ _ _ _ r8_g0_0 (by omega) (by omega)).mono ?_
  rintro e w17 ⟨rfl, nr8_g0_0, hk⟩
  replace r5_w0_0 := r5_w0_0.keep hk (by omega)
  clear r8_g0_0; have r8_g0_0 := nr8_g0_0; clear nr8_g0_0
  replace A := below_keep A hk (by omega) A.size
  have z17 := hk.size
  clear hk
  go_wp2_with fail
  refine (u_held_SN _ r0_x0.length _ _ r8_g0_0.sl (by omega) (by omega)).mono ?_
  rintro e w18 ⟨rfl, hb⟩
  replace r5_w0_0 := r5_w0_0.below hb
  replace r8_g0_0 := r8_g0_0.below hb
  replace A := A.trans (hb.mono A.size)
  have z18 := hb.size
  clear hb
  go_wp2_with fail
  refine (u_to_SN _ aA_x0 _ (hA_0.below A) (by omega)).mono ?_
  rintro e w19 ⟨sA_v0, rfl, o19_0, hb⟩
  replace r5_w0_0 := r5_w0_0.below hb
  replace r8_g0_0 := r8_g0_0.below hb
  replace A := A.trans (hb.mono A.size)
  have z19 := hb.size
  clear hb
  go_wp2_with fail
  refine (u_to_SSN _ aI_x0 _ (hI_0.below A) (by omega)).mono ?_
  rintro e w20 ⟨sI_v0, rfl, o20_0, hb⟩
  replace r5_w0_0 := r5_w0_0.below hb
  replace r8_g0_0 := r8_g0_0.below hb
  replace o19_0 := o19_0.below hb
  replace A := A.trans (hb.mono A.size)
  have z20 := hb.size
  clear hb
  go_wp2_with fail
  refine (HI.out _ _ _ o19_0.sl o20_0.sl).mono ?_
  rintro e w21 ⟨h0_v0, rfl, r21_h0_0, hb⟩
  replace r5_w0_0 := r5_w0_0.below hb
  replace r8_g0_0 := r8_g0_0.below hb
  replace o19_0 := o19_0.below hb
  replace o20_0 := o20_0.below hb
  replace A := A.trans (hb.mono A.size)
  have z21 := hb.size
  clear hb
  clear o19_0
  clear o20_0
  go_wp2_with fail
  refine (u_eq_SN _ _ r0_x0 _ r21_h0_0.sl r5_w0_0.sl (by omega)).mono ?_
  rintro e w22 ⟨rfl, hb⟩
  replace r5_w0_0 := r5_w0_0.below hb
  replace r8_g0_0 := r8_g0_0.below hb
  replace r21_h0_0 := r21_h0_0.below hb
  replace A := A.trans (hb.mono A.size)
  have z22 := hb.size
  clear hb
  go_wp2_with fail
  refine (u_held_SN _ r0_x0.length _ _ r8_g0_0.sl (by omega) (by omega)).mono ?_
  rintro e w23 ⟨rfl, hb⟩
  replace r5_w0_0 := r5_w0_0.below hb
  replace r8_g0_0 := r8_g0_0.below hb
  replace r21_h0_0 := r21_h0_0.below hb
  replace A := A.trans (hb.mono A.size)
  have z23 := hb.size
  clear hb
  have BB := Lib.hid A; clear A
  clear r5_w0_0 r8_g0_0 r21_h0_0
  go_wp2
  go_ret
  exact ⟨rfl, BB.out⟩
theorem final_ReplaceOuter (v : Value) (xs : List Nd) (s : Int) (u : Value) (yss : List (List Nd)) (w : World) (h : Sl cN w v xs) (h' : Sl2 cN w u yss) :
    Calls Try.prog 3 #[v, .int .i64 s, u] w fun e w' => e = .returned (.bool true) ∧ Below w.heap.size w w' := by
  by_cases hc : roc xs yss s = 0
  · have h2 : yss.all isF = true := by
      unfold roc at hc
      split at hc
      · assumption
      · exact absurd hc (by decide)
    obtain ⟨I, rfl, hI⟩ := all_enc yss h2
    obtain ⟨⟨f, hok, rfl, hl⟩, k, rfl, hk⟩ := vcode_zero (show vcode xs s = 0 by unfold roc at hc; rwa [if_pos h2] at hc)
    by_cases hn : I.length = (outs k f []).length
    · have hml := madeL_length (enc (repO k (ims (outs k f []) I) f))
      exact walk_ReplaceOuter v _ k u _ (madeL (enc (repO k (ims (outs k f []) I) f))) (madeC (enc (repO k (ims (outs k f []) I) f))) w h h' (by omega)
        (Lib.hid fun hq W v u h h' => (spec_ReplaceOuter_good v u f I k W h h' hl hok hk hI (by omega)).mono fun e w' ⟨r, _, h2, hb⟩ => ⟨r, (h2 hn).1, (h2 hn).2.ob, hb⟩)
        (Lib.hid fun hq W v u h h' => (impl_ReplaceOuter_good v u f I k W h h' hl hok hk hI (by omega)).mono fun e w' ⟨r, _, h2, hb⟩ => ⟨r, (h2 hn).1, (h2 hn).2.ob, hb⟩)
    · exact walk_ReplaceOuter v _ k u _ [] 5 w h h' (by simp)
        (Lib.hid fun hq W v u h h' => (spec_ReplaceOuter_good v u f I k W h h' hl hok hk hI (by omega)).mono fun e w' ⟨r, h1, _, hb⟩ => ⟨r, (h1 hn).1, (h1 hn).2.ob, hb⟩)
        (Lib.hid fun hq W v u h h' => (impl_ReplaceOuter_good v u f I k W h h' hl hok hk hI (by omega)).mono fun e w' ⟨r, h1, _, hb⟩ => ⟨r, (h1 hn).1, (h1 hn).2.ob, hb⟩)
  · exact walk_ReplaceOuter v xs s u yss [] (roc xs yss s) w h h' (by simp)
      (Lib.hid fun hq W v u h h' => (spec_ReplaceOuter_bad v u xs yss s W h h' (by omega) (by omega) hc).mono fun e w' ⟨he, hb⟩ => ⟨_, he, (Ow.nil _ _).ob, hb⟩)
      (Lib.hid fun hq W v u h h' => (impl_ReplaceOuter_bad v u xs yss s W h h' (by omega) (by omega) hc).mono fun e w' ⟨he, hb⟩ => ⟨_, he, (Ow.nil _ _).ob, hb⟩)
end Go.Proofs.Ytgdmfihnbbgcoaa

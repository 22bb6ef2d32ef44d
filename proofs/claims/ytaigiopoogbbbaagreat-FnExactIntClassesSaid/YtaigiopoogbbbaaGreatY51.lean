/- The walk of the law FnExactIntClasses, written by program: it returns true and writes nothing that was there. -/
import Derived.Test.YtaigiopoogbbbaaGreatY03
import Derived.Test.YtaigiopoogbbbaaGreatY06
import Derived.Test.YtaigiopoogbbbaaGreatY50
namespace Go.Proofs.YtaigiopoogbbbaaGreat
open Go.RowKit
set_option linter.unusedVariables false
set_option linter.unusedSimpArgs false
set_option maxHeartbeats 1000000 in
set_option maxRecDepth 100000 in
theorem walk_IntClasses (vL_0 : Value) (aL_x0 : List (List Nd)) (r0_x0 : List Int) (r1_x0 : Int) (w : World) (hL_0 : Sl2 cN w vL_0 aL_x0) (hr0_0 : r0_x0.length ≤ 1048576)
    (HS : Hid (tot aL_x0 ≤ 1048576 → ∀ (W : World) (vL_0 : Value), Sl2 cN W vL_0 aL_x0 → Calls Tryz.prog 5 #[vL_0] W fun e w' => ∃ u0_0 : Value, e = .returned (.tuple #[u0_0, .int .i64 r1_x0]) ∧ Ob cI 2 W.heap.size w'.heap.size w' u0_0 r0_x0 ∧ Below W.heap.size W w'))
    (HI : Hid (tot aL_x0 ≤ 1048576 → ∀ (W : World) (vL_0 : Value), Sl2 cN W vL_0 aL_x0 → Calls Tryz.prog 7 #[vL_0] W fun e w' => ∃ u0_0 : Value, e = .returned (.tuple #[u0_0, .int .i64 r1_x0]) ∧ Ob cI 2 W.heap.size w'.heap.size w' u0_0 r0_x0 ∧ Below W.heap.size W w')) :
    Calls Tryz.prog 3 #[vL_0] w fun e w' => e = .returned (.bool true) ∧ Below w.heap.size w w' := by
  rcases Nat.lt_or_ge 1048576 (tot aL_x0) with q0 | q0
  · have hSL_0 := sumL_tot aL_x0
    have A := Below.refl w.heap.size w
    go_enter Tryz.func3, Tryz.ntmps3
    go_wp2_with fail
    refine (u_sz_SSN _ aL_x0 _ _ (hL_0.below A) (by omega)).mono ?_
    rintro e w1 ⟨rfl, hb⟩
    replace A := A.trans (hb.mono A.size)
    have z1 := hb.size
    clear hb
    rw [szL_neg (by omega)]
    have BB := Lib.hid A; clear A
    go_wp2
    go_ret
    exact ⟨rfl, BB.out⟩
  have HS := Lib.hid (HS.out (by omega))
  have HI := Lib.hid (HI.out (by omega))
  have hSL_0 := sumL_tot aL_x0
  have A := Below.refl w.heap.size w
  go_enter Tryz.func3, Tryz.ntmps3
  go_wp2_with fail
  refine (u_sz_SSN _ aL_x0 _ _ (hL_0.below A) (by omega)).mono ?_
  rintro e w1 ⟨rfl, hb⟩
  replace A := A.trans (hb.mono A.size)
  have z1 := hb.size
  clear hb
  rw [szL_pos (by omega)]
  go_wp2_with fail
  refine (u_to_SSN _ aL_x0 _ (hL_0.below A) (by omega)).mono ?_
  rintro e w2 ⟨tL_v0, rfl, o2_0, hb⟩
  replace A := A.trans (hb.mono A.size)
  have z2 := hb.size
  clear hb
  go_wp2_with fail
  refine (HS.out _ _ o2_0.sl).mono ?_
  rintro e w3 ⟨w0_v0, rfl, r3_w0_0, hb⟩
  replace o2_0 := o2_0.below hb
  replace A := A.trans (hb.mono A.size)
  have z3 := hb.size
  clear hb
  clear o2_0
  go_wp2_with fail
  refine (u_to_SSN _ aL_x0 _ (hL_0.below A) (by omega)).mono ?_
  rintro e w4 ⟨xL_v0, rfl, o4_0, hb⟩
  replace r3_w0_0 := r3_w0_0.below hb
  replace A := A.trans (hb.mono A.size)
  have z4 := hb.size
  clear hb
  go_wp2_with fail
  refine (HI.out _ _ o4_0.sl).mono ?_
  rintro e w5 ⟨g0_v0, rfl, r5_g0_0, hb⟩
  replace r3_w0_0 := r3_w0_0.below hb
  replace o4_0 := o4_0.below hb
  replace A := A.trans (hb.mono A.size)
  have z5 := hb.size
  clear hb
  go_wp2_with fail
  refine (u_eq_SI _ _ r0_x0 _ r5_g0_0.sl r3_w0_0.sl (by omega)).mono ?_
  rintro e w6 ⟨rfl, hb⟩
  replace r3_w0_0 := r3_w0_0.below hb
  replace o4_0 := o4_0.below hb
  replace r5_g0_0 := r5_g0_0.below hb
  replace A := A.trans (hb.mono A.size)
  have z6 := hb.size
  clear hb
  go_wp2_with fail
  refine (u_to_SSN _ aL_x0 _ (hL_0.below A) (by omega)).mono ?_
  rintro e w7 ⟨yL_v0, rfl, o7_0, hb⟩
  replace r3_w0_0 := r3_w0_0.below hb
  replace o4_0 := o4_0.below hb
  replace r5_g0_0 := r5_g0_0.below hb
  replace A := A.trans (hb.mono A.size)
  have z7 := hb.size
  clear hb
  go_wp2_with fail
  refine (u_eq_SSN _ _ aL_x0 _ o4_0.sl o7_0.sl (by omega)).mono ?_
  rintro e w8 ⟨rfl, hb⟩
  replace r3_w0_0 := r3_w0_0.below hb
  replace o4_0 := o4_0.below hb
  replace r5_g0_0 := r5_g0_0.below hb
  replace o7_0 := o7_0.below hb
  replace A := A.trans (hb.mono A.size)
  have z8 := hb.size
  clear hb
  clear o7_0
  go_wp2_with fail
  refine (u_mark_SSN _ aL_x0 _ _ _ _ o4_0 (by omega) (by omega)).mono ?_
  rintro e w9 ⟨rfl, hk⟩
  replace r3_w0_0 := r3_w0_0.keep hk (by omega)
  replace r5_g0_0 := r5_g0_0.keep hk (by omega)
  clear o4_0
  replace A := below_keep A hk (by omega) A.size
  have z9 := hk.size
  clear hk
  go_wp2_with fail
  refine (u_eq_SI _ _ r0_x0 _ r5_g0_0.sl r3_w0_0.sl (by omega)).mono ?_
  rintro e w10 ⟨rfl, hb⟩
  replace r3_w0_0 := r3_w0_0.below hb
  replace r5_g0_0 := r5_g0_0.below hb
  replace A := A.trans (hb.mono A.size)
  have z10 := hb.size
  clear hb
  go_wp2_with fail
  refine (u_mark_SI _ r0_x0 _ _ _ _ r5_g0_0 (by omega) (by omega)).mono ?_
  rintro e w11 ⟨rfl, nr5_g0_0, hk⟩
  replace r3_w0_0 := r3_w0_0.keep hk (by omega)
  clear r5_g0_0; have r5_g0_0 := nr5_g0_0; clear nr5_g0_0
  replace A := below_keep A hk (by omega) A.size
  have z11 := hk.size
  clear hk
  go_wp2_with fail
  refine (u_held_SI _ r0_x0.length _ _ r5_g0_0.sl (by omega) (by omega)).mono ?_
  rintro e w12 ⟨rfl, hb⟩
  replace r3_w0_0 := r3_w0_0.below hb
  replace r5_g0_0 := r5_g0_0.below hb
  replace A := A.trans (hb.mono A.size)
  have z12 := hb.size
  clear hb
  go_wp2_with fail
  refine (u_to_SSN _ aL_x0 _ (hL_0.below A) (by omega)).mono ?_
  rintro e w13 ⟨sL_v0, rfl, o13_0, hb⟩
  replace r3_w0_0 := r3_w0_0.below hb
  replace r5_g0_0 := r5_g0_0.below hb
  replace A := A.trans (hb.mono A.size)
  have z13 := hb.size
  clear hb
  go_wp2_with fail
  refine (HI.out _ _ o13_0.sl).mono ?_
  rintro e w14 ⟨h0_v0, rfl, r14_h0_0, hb⟩
  replace r3_w0_0 := r3_w0_0.below hb
  replace r5_g0_0 := r5_g0_0.below hb
  replace o13_0 := o13_0.below hb
  replace A := A.trans (hb.mono A.size)
  have z14 := hb.size
  clear hb
  clear o13_0
  go_wp2_with fail
  refine (u_eq_SI _ _ r0_x0 _ r14_h0_0.sl r3_w0_0.sl (by omega)).mono ?_
  rintro e w15 ⟨rfl, hb⟩
  replace r3_w0_0 := r3_w0_0.below hb
  replace r5_g0_0 := r5_g0_0.below hb
  replace r14_h0_0 := r14_h0_0.below hb
  replace A := A.trans (hb.mono A.size)
  have z15 := hb.size
  clear hb
  go_wp2_with fail
  refine (u_held_SI _ r0_x0.length _ _ r5_g0_0.sl (by omega) (by omega)).mono ?_
  rintro e w16 ⟨rfl, hb⟩
  replace r3_w0_0 := r3_w0_0.below hb
  replace r5_g0_0 := r5_g0_0.below hb
  replace r14_h0_0 := r14_h0_0.below hb
  replace A := A.trans (hb.mono A.size)
  have z16 := hb.size
  clear hb
  have BB := Lib.hid A; clear A
  clear r3_w0_0 r5_g0_0 r14_h0_0
  go_wp2
  go_ret
  exact ⟨rfl, BB.out⟩
theorem IcR.ex (xss : List (List Nd)) : ∃ R : List Int, IcR xss R ∧ R.length ≤ 1048576 := by
  by_cases hc : icode xss = 0
  · have h1 : xss.all isF = true := by
      cases h : xss.all isF with
      | true => rfl
      | false => unfold icode at hc; rw [if_neg (by rw [h]; decide)] at hc; cases hc
    have h2 : ¬ 8 < xss.length := fun h => by rw [icode_2 h1 h] at hc; cases hc
    have h3 : xss.all pl = true := by
      cases h : xss.all pl with
      | true => rfl
      | false => rw [icode_5 h1 h2 h] at hc; cases hc
    obtain ⟨O, rfl, hO⟩ := all_encI xss h1
    rw [List.length_map] at h2
    refine ⟨_, ⟨fun h => absurd hc h, fun _ => ⟨O, rfl, fun g hg => ⟨(hO g hg).1, ?_, (hO g hg).2⟩, by omega, rfl⟩⟩, by rw [li_length, dvd_length]; omega⟩
    have := List.all_eq_true.1 h3 _ (List.mem_map.2 ⟨g, hg, rfl⟩)
    rwa [pl_enc] at this
  · exact ⟨[], ⟨fun _ => rfl, fun h => absurd h hc⟩, by simp⟩
theorem final_IntClasses (v : Value) (xss : List (List Nd)) (w : World) (h : Sl2 cN w v xss) :
    Calls Tryz.prog 3 #[v] w fun e w' => e = .returned (.bool true) ∧ Below w.heap.size w w' := by
  obtain ⟨R, hR, hl⟩ := IcR.ex xss
  exact walk_IntClasses v xss R (icode xss) w h hl (Lib.hid fun hl W u hu => (spec_IntClasses u xss R W hu hl hR).mono fun e w' ⟨u, he, ho, hb⟩ => ⟨u, he, ho.ob, hb⟩)
    (Lib.hid fun hl W u hu => (impl_IntClasses u xss R W hu hl hR).mono fun e w' ⟨u, he, ho, hb⟩ => ⟨u, he, ho.ob, hb⟩)
end Go.Proofs.YtaigiopoogbbbaaGreat

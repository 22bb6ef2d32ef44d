/- The walk of the law FnExactFixedPointTrace, written by program: it returns true and writes nothing that was there. -/
import Derived.Test.YtbejakkcdbhmaaaLUs
import Derived.Test.YtbejakkcdbhmaaaLT
import Derived.Test.Ytbejakkcdbhmaaa33u
namespace Go.Proofs.Ytbejakkcdbhmaaa
open Go.RowKit
set_option linter.unusedVariables false
set_option linter.unusedSimpArgs false
theorem walk_FixedPointTrace (vA_0 : Value) (aA_x0 : List Nd) (aV_x0 : Int) (r0_x0 : Bool) (r0_x1 : List Int) (r1_x0 : Int) (w : World) (hA_0 : Sl cN w vA_0 aA_x0) (hr0_1 : r0_x1.length ≤ 1048576)
    (HS : Hid (aA_x0.length ≤ 1048576 → ∀ (W : World) (vA_0 : Value), Sl cN W vA_0 aA_x0 → Calls Try.prog 35 #[vA_0, .int .i64 aV_x0] W fun e w' => ∃ u0_1 : Value, e = .returned (.tuple #[.agg #[.bool r0_x0, u0_1], .int .i64 r1_x0]) ∧ Ob cI 2 W.heap.size w'.heap.size w' u0_1 r0_x1 ∧ Below W.heap.size W w'))
    (HI : Hid (aA_x0.length ≤ 1048576 → ∀ (W : World) (vA_0 : Value), Sl cN W vA_0 aA_x0 → Calls Try.prog 36 #[vA_0, .int .i64 aV_x0] W fun e w' => ∃ u0_1 : Value, e = .returned (.tuple #[.agg #[.bool r0_x0, u0_1], .int .i64 r1_x0]) ∧ Ob cI 2 W.heap.size w'.heap.size w' u0_1 r0_x1 ∧ Below W.heap.size W w')) :
    Calls Try.prog 6 #[vA_0, .int .i64 aV_x0] w fun e w' => e = .returned (.bool true) ∧ Below w.heap.size w w' := by
  rcases Nat.lt_or_ge 1048576 (aA_x0.length) with q0 | q0
  · have A := Below.refl w.heap.size w
    go_enter Try.func6, Try.ntmps6
    go_wp2_with fail
    refine (u_sz_SN _ aA_x0 _ _ (hA_0.below A) (by omega)).mono ?_
    rintro e w1 ⟨rfl, hb⟩
    replace A := A.trans (hb.mono A.size)
    have z1 := hb.size
    clear hb
    rw [szL_neg (by omega)]
    have BB := Lib.hid A; clear A
    go_wp2
    go_ret
    exact ⟨rfl, BB.out⟩
  have HS := Lib.hid (HS.out (by omega))
  have HI := Lib.hid (HI.out (by omega))
  have A := Below.refl w.heap.size w
  go_enter Try.func6, Try.ntmps6
  go_wp2_with fail
  refine (u_sz_SN _ aA_x0 _ _ (hA_0.below A) (by omega)).mono ?_
  rintro e w1 ⟨rfl, hb⟩
  replace A := A.trans (hb.mono A.size)
  have z1 := hb.size
  clear hb
  rw [szL_pos (by omega)]
  go_wp2_with fail
  refine (u_to_SN _ aA_x0 _ (hA_0.below A) (by omega)).mono ?_
  rintro e w2 ⟨tA_v0, rfl, o2_0, hb⟩
  replace A := A.trans (hb.mono A.size)
  have z2 := hb.size
  clear hb
  go_wp2_with fail
  refine (HS.out _ _ o2_0.sl).mono ?_
  rintro e w3 ⟨w0_v1, rfl, r3_w0_1, hb⟩
  replace o2_0 := o2_0.below hb
  replace A := A.trans (hb.mono A.size)
  have z3 := hb.size
  clear hb
  obtain ⟨w0_v1_A, w0_v1_c, rfl⟩ := r3_w0_1.opn
  clear o2_0
  have hb4 := below_alloc' w3 (.cells #[.bool r0_x0, .slice w0_v1_A r0_x1.length w0_v1_c] 52)
  have y4 := size_alloc' w3 (.cells #[.bool r0_x0, .slice w0_v1_A r0_x1.length w0_v1_c] 52)
  replace r3_w0_1 := r3_w0_1.below hb4
  replace A := A.trans (hb4.mono A.size)
  have z4 := hb4.size
  have b4 := Bk.new w3 #[.bool r0_x0, .slice w0_v1_A r0_x1.length w0_v1_c] 52
  clear hb4
  have b4s := b4.1
  have b4c := b4.2
  go_wp2_with fail
  clear b4s b4c
  refine (u_to_SN _ aA_x0 _ (hA_0.below A) (by omega)).mono ?_
  rintro e w5 ⟨xA_v0, rfl, o5_0, hb⟩
  replace r3_w0_1 := r3_w0_1.below hb
  replace b4 := b4.below hb
  replace A := A.trans (hb.mono A.size)
  have z5 := hb.size
  clear hb
  have b4s := b4.1
  have b4c := b4.2
  go_wp2_with fail
  clear b4s b4c
  refine (HI.out _ _ o5_0.sl).mono ?_
  rintro e w6 ⟨g0_v1, rfl, r6_g0_1, hb⟩
  replace r3_w0_1 := r3_w0_1.below hb
  replace o5_0 := o5_0.below hb
  replace b4 := b4.below hb
  replace A := A.trans (hb.mono A.size)
  have z6 := hb.size
  clear hb
  obtain ⟨g0_v1_A, g0_v1_c, rfl⟩ := r6_g0_1.opn
  have hb7 := below_alloc' w6 (.cells #[.bool r0_x0, .slice g0_v1_A r0_x1.length g0_v1_c] 52)
  have y7 := size_alloc' w6 (.cells #[.bool r0_x0, .slice g0_v1_A r0_x1.length g0_v1_c] 52)
  replace r3_w0_1 := r3_w0_1.below hb7
  replace o5_0 := o5_0.below hb7
  replace r6_g0_1 := r6_g0_1.below hb7
  replace b4 := b4.below hb7
  replace A := A.trans (hb7.mono A.size)
  have z7 := hb7.size
  have b7 := Bk.new w6 #[.bool r0_x0, .slice g0_v1_A r0_x1.length g0_v1_c] 52
  clear hb7
  have b4s := b4.1
  have b4c := b4.2
  have b7s := b7.1
  have b7c := b7.2
  go_wp2_with fail
  clear b4s b4c b7s b7c
  refine (u_eq_Trace r0_x0 _ _ r0_x1 _ r6_g0_1.sl r3_w0_1.sl (by omega)).mono ?_
  rintro e w8 ⟨rfl, hb⟩
  replace r3_w0_1 := r3_w0_1.below hb
  replace o5_0 := o5_0.below hb
  replace r6_g0_1 := r6_g0_1.below hb
  replace b4 := b4.below hb
  replace b7 := b7.below hb
  replace A := A.trans (hb.mono A.size)
  have z8 := hb.size
  clear hb
  have b4s := b4.1
  have b4c := b4.2
  have b7s := b7.1
  have b7c := b7.2
  go_wp2_with fail
  clear b4s b4c b7s b7c
  refine (u_to_SN _ aA_x0 _ (hA_0.below A) (by omega)).mono ?_
  rintro e w9 ⟨yA_v0, rfl, o9_0, hb⟩
  replace r3_w0_1 := r3_w0_1.below hb
  replace o5_0 := o5_0.below hb
  replace r6_g0_1 := r6_g0_1.below hb
  replace b4 := b4.below hb
  replace b7 := b7.below hb
  replace A := A.trans (hb.mono A.size)
  have z9 := hb.size
  clear hb
  have b4s := b4.1
  have b4c := b4.2
  have b7s := b7.1
  have b7c := b7.2
  go_wp2_with fail
  clear b4s b4c b7s b7c
  refine (u_eq_SN _ _ aA_x0 _ o5_0.sl o9_0.sl (by omega)).mono ?_
  rintro e w10 ⟨rfl, hb⟩
  replace r3_w0_1 := r3_w0_1.below hb
  replace o5_0 := o5_0.below hb
  replace r6_g0_1 := r6_g0_1.below hb
  replace o9_0 := o9_0.below hb
  replace b4 := b4.below hb
  replace b7 := b7.below hb
  replace A := A.trans (hb.mono A.size)
  have z10 := hb.size
  clear hb
  clear o9_0
  have b4s := b4.1
  have b4c := b4.2
  have b7s := b7.1
  have b7c := b7.2
  go_wp2_with fail
  clear b4s b4c b7s b7c
  refine (u_mark_SN _ aA_x0 _ _ _ _ o5_0 (by omega) (by omega)).mono ?_
  rintro e w11 ⟨rfl, no5_0, hk⟩
  replace r3_w0_1 := r3_w0_1.keep hk (by omega)
  replace r6_g0_1 := r6_g0_1.keep hk (by omega)
  clear o5_0; have o5_0 := no5_0; clear no5_0
  replace b4 := b4.keep hk (by omega)
  replace b7 := b7.keep hk (by omega)
  replace A := below_keep A hk (by omega) A.size
  have z11 := hk.size
  clear hk
  have b4s := b4.1
  have b4c := b4.2
  have b7s := b7.1
  have b7c := b7.2
  go_wp2_with fail
  clear b4s b4c b7s b7c
  refine (u_eq_Trace r0_x0 _ _ r0_x1 _ r6_g0_1.sl r3_w0_1.sl (by omega)).mono ?_
  rintro e w12 ⟨rfl, hb⟩
  replace r3_w0_1 := r3_w0_1.below hb
  replace o5_0 := o5_0.below hb
  replace r6_g0_1 := r6_g0_1.below hb
  replace b4 := b4.below hb
  replace b7 := b7.below hb
  replace A := A.trans (hb.mono A.size)
  have z12 := hb.size
  clear hb
  clear o5_0
  have b4s := b4.1
  have b4c := b4.2
  have b7s := b7.1
  have b7c := b7.2
  go_wp2_with fail
  clear b4s b4c b7s b7c
  refine (u_mark_Trace r0_x0 _ r0_x1 _ _ _ _ r6_g0_1 (by omega) (by omega)).mono ?_
  rintro e w13 ⟨rfl, nr6_g0_1, hk⟩
  replace r3_w0_1 := r3_w0_1.keep hk (by omega)
  clear r6_g0_1; have r6_g0_1 := nr6_g0_1; clear nr6_g0_1
  replace b4 := b4.keep hk (by omega)
  replace b7 := b7.keep hk (by omega)
  replace A := below_keep A hk (by omega) A.size
  have z13 := hk.size
  clear hk
  have b4s := b4.1
  have b4c := b4.2
  have b7s := b7.1
  have b7c := b7.2
  go_wp2_with fail
  clear b4s b4c b7s b7c
  refine (u_held_Trace r0_x0 _ r0_x1.length _ _ r6_g0_1.sl (by omega) (by omega)).mono ?_
  rintro e w14 ⟨rfl, hb⟩
  replace r3_w0_1 := r3_w0_1.below hb
  replace r6_g0_1 := r6_g0_1.below hb
  replace b4 := b4.below hb
  replace b7 := b7.below hb
  replace A := A.trans (hb.mono A.size)
  have z14 := hb.size
  clear hb
  have b4s := b4.1
  have b4c := b4.2
  have b7s := b7.1
  have b7c := b7.2
  go_wp2_with fail
  clear b4s b4c b7s b7c
  refine (u_to_SN _ aA_x0 _ (hA_0.below A) (by omega)).mono ?_
  rintro e w15 ⟨sA_v0, rfl, o15_0, hb⟩
  replace r3_w0_1 := r3_w0_1.below hb
  replace r6_g0_1 := r6_g0_1.below hb
  replace b4 := b4.below hb
  replace b7 := b7.below hb
  replace A := A.trans (hb.mono A.size)
  have z15 := hb.size
  clear hb
  have b4s := b4.1
  have b4c := b4.2
  have b7s := b7.1
  have b7c := b7.2
  go_wp2_with fail
  clear b4s b4c b7s b7c
  refine (HI.out _ _ o15_0.sl).mono ?_
  rintro e w16 ⟨h0_v1, rfl, r16_h0_1, hb⟩
  replace r3_w0_1 := r3_w0_1.below hb
  replace r6_g0_1 := r6_g0_1.below hb
  replace o15_0 := o15_0.below hb
  replace b4 := b4.below hb
  replace b7 := b7.below hb
  replace A := A.trans (hb.mono A.size)
  have z16 := hb.size
  clear hb
  obtain ⟨h0_v1_A, h0_v1_c, rfl⟩ := r16_h0_1.opn
  clear o15_0
  have hb17 := below_alloc' w16 (.cells #[.bool r0_x0, .slice h0_v1_A r0_x1.length h0_v1_c] 52)
  have y17 := size_alloc' w16 (.cells #[.bool r0_x0, .slice h0_v1_A r0_x1.length h0_v1_c] 52)
  replace r3_w0_1 := r3_w0_1.below hb17
  replace r6_g0_1 := r6_g0_1.below hb17
  replace r16_h0_1 := r16_h0_1.below hb17
  replace b4 := b4.below hb17
  replace b7 := b7.below hb17
  replace A := A.trans (hb17.mono A.size)
  have z17 := hb17.size
  have b17 := Bk.new w16 #[.bool r0_x0, .slice h0_v1_A r0_x1.length h0_v1_c] 52
  clear hb17
  have b4s := b4.1
  have b4c := b4.2
  have b7s := b7.1
  have b7c := b7.2
  have b17s := b17.1
  have b17c := b17.2
  go_wp2_with fail
  clear b4s b4c b7s b7c b17s b17c
  refine (u_eq_Trace r0_x0 _ _ r0_x1 _ r16_h0_1.sl r3_w0_1.sl (by omega)).mono ?_
  rintro e w18 ⟨rfl, hb⟩
  replace r3_w0_1 := r3_w0_1.below hb
  replace r6_g0_1 := r6_g0_1.below hb
  replace r16_h0_1 := r16_h0_1.below hb
  replace b4 := b4.below hb
  replace b7 := b7.below hb
  replace b17 := b17.below hb
  replace A := A.trans (hb.mono A.size)
  have z18 := hb.size
  clear hb
  have b4s := b4.1
  have b4c := b4.2
  have b7s := b7.1
  have b7c := b7.2
  have b17s := b17.1
  have b17c := b17.2
  go_wp2_with fail
  clear b4s b4c b7s b7c b17s b17c
  refine (u_held_Trace r0_x0 _ r0_x1.length _ _ r6_g0_1.sl (by omega) (by omega)).mono ?_
  rintro e w19 ⟨rfl, hb⟩
  replace r3_w0_1 := r3_w0_1.below hb
  replace r6_g0_1 := r6_g0_1.below hb
  replace r16_h0_1 := r16_h0_1.below hb
  replace b4 := b4.below hb
  replace b7 := b7.below hb
  replace b17 := b17.below hb
  replace A := A.trans (hb.mono A.size)
  have z19 := hb.size
  clear hb
  have b4s := b4.1
  have b4c := b4.2
  have b7s := b7.1
  have b7c := b7.2
  have b17s := b17.1
  have b17c := b17.2
  have BB := Lib.hid A; clear A
  clear r3_w0_1 r6_g0_1 r16_h0_1
  go_wp2
  go_ret
  exact ⟨rfl, BB.out⟩
theorem final_FixedPointTrace (v : Value) (xs : List Nd) (s : Int) (w : World) (h : Sl cN w v xs) :
    Calls Try.prog 6 #[v, .int .i64 s] w fun e w' => e = .returned (.bool true) ∧ Below w.heap.size w w' := by
  by_cases hc : vcode xs s = 0
  · obtain ⟨⟨f, hok, rfl, hl⟩, n, rfl, hn⟩ := vcode_zero hc
    cases hL : lone f n
    · exact walk_FixedPointTrace v _ n false [] 5 w h (by simp) (Lib.hid fun _ W u hu => (spec_FixedPointTrace_state u f n W hu hl hok hn hL).mono fun e w' ⟨he, hb⟩ => ⟨_, he, (Ow.nil _ _).ob, hb⟩)
        (Lib.hid fun _ W u hu => (impl_FixedPointTrace_state u f n W hu hl hok hn hL).mono fun e w' ⟨he, hb⟩ => ⟨_, he, (Ow.nil _ _).ob, hb⟩)
    · exact walk_FixedPointTrace v _ n (!(fpS f 61).testBit 60) (trOf (fpS f 61).testBit) 0 w h (Nat.le_trans (trTo_length _ 61) (by decide)) (Lib.hid fun _ W u hu => (spec_FixedPointTrace_ok u f n W hu hl hok hn hL).mono fun e w' ⟨u, he, ho, hb⟩ => ⟨u, he, ho.ob, hb⟩)
        (Lib.hid fun _ W u hu => (impl_FixedPointTrace_ok u f n W hu hl hok hn hL).mono fun e w' ⟨u, he, ho, hb⟩ => ⟨u, he, ho.ob, hb⟩)
  · exact walk_FixedPointTrace v _ s false [] (vcode xs s) w h (by simp) (Lib.hid fun hl W u hu => (spec_FixedPointTrace_bad u xs s W hu hl hc).mono fun e w' ⟨he, hb⟩ => ⟨_, he, (Ow.nil _ _).ob, hb⟩)
      (Lib.hid fun hl W u hu => (impl_FixedPointTrace_bad u xs s W hu hl hc).mono fun e w' ⟨he, hb⟩ => ⟨_, he, (Ow.nil _ _).ob, hb⟩)
end Go.Proofs.Ytbejakkcdbhmaaa

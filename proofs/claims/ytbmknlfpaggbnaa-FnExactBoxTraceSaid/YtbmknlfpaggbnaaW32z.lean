/- The walk of the law FnExactBoxTrace, written by program: it returns true and writes nothing that was there. -/
import Derived.Test.YtbmknlfpaggbnaaLUs
import Derived.Test.YtbmknlfpaggbnaaLT
import Derived.Test.Ytbmknlfpaggbnaa32z3
namespace Go.Proofs.Ytbmknlfpaggbnaa
open Go.RowKit
set_option linter.unusedVariables false
set_option linter.unusedSimpArgs false
theorem walk_BoxTrace (aA_x0 : Bool) (vA_1 : Value) (aA_x1 : List Int) (r0_x0 : Bool) (r0_x1 : List Int) (r1_x0 : Int) (w : World) (hA_1 : Sl cI w vA_1 aA_x1) (hr0_1 : r0_x1.length ≤ 1048576)
    (HS : Hid (aA_x1.length ≤ 1048576 → ∀ (W : World) (vA_1 : Value), Sl cI W vA_1 aA_x1 → Calls Try.prog 32 #[.agg #[.bool aA_x0, vA_1]] W fun e w' => ∃ u0_1 : Value, e = .returned (.tuple #[.agg #[.bool r0_x0, u0_1], .int .i64 r1_x0]) ∧ Ob cI 2 W.heap.size w'.heap.size w' u0_1 r0_x1 ∧ Below W.heap.size W w'))
    (HI : Hid (aA_x1.length ≤ 1048576 → ∀ (W : World) (vA_1 : Value), Sl cI W vA_1 aA_x1 → Calls Try.prog 33 #[.agg #[.bool aA_x0, vA_1]] W fun e w' => ∃ u0_1 : Value, e = .returned (.tuple #[.agg #[.bool r0_x0, u0_1], .int .i64 r1_x0]) ∧ Ob cI 2 W.heap.size w'.heap.size w' u0_1 r0_x1 ∧ Below W.heap.size W w')) :
    Calls Try.prog 6 #[.agg #[.bool aA_x0, vA_1]] w fun e w' => e = .returned (.bool true) ∧ Below w.heap.size w w' := by
  rcases Nat.lt_or_ge 1048576 (aA_x1.length) with q0 | q0
  · obtain ⟨vA_1_A, vA_1_c, rfl⟩ := hA_1.opn
    have A := Below.refl w.heap.size w
    go_enter Try.func6, Try.ntmps6
    have hb1 := below_alloc' w (.cells #[.bool aA_x0, .slice vA_1_A aA_x1.length vA_1_c] 31)
    have y1 := size_alloc' w (.cells #[.bool aA_x0, .slice vA_1_A aA_x1.length vA_1_c] 31)
    replace A := A.trans (hb1.mono A.size)
    have z1 := hb1.size
    have b1 := Bk.new w #[.bool aA_x0, .slice vA_1_A aA_x1.length vA_1_c] 31
    clear hb1
    have b1s := b1.1
    have b1c := b1.2
    go_wp2_with fail
    clear b1s b1c
    refine (u_sz_Trace aA_x0 _ aA_x1 _ _ (hA_1.below A) (by omega)).mono ?_
    rintro e w2 ⟨rfl, hb⟩
    replace b1 := b1.below hb
    replace A := A.trans (hb.mono A.size)
    have z2 := hb.size
    clear hb
    rw [szL_neg (by omega)]
    have b1s := b1.1
    have b1c := b1.2
    have BB := Lib.hid A; clear A
    go_wp2
    go_ret
    exact ⟨rfl, BB.out⟩
  have HS := Lib.hid (HS.out (by omega))
  have HI := Lib.hid (HI.out (by omega))
  obtain ⟨vA_1_A, vA_1_c, rfl⟩ := hA_1.opn
  have A := Below.refl w.heap.size w
  go_enter Try.func6, Try.ntmps6
  have hb1 := below_alloc' w (.cells #[.bool aA_x0, .slice vA_1_A aA_x1.length vA_1_c] 31)
  have y1 := size_alloc' w (.cells #[.bool aA_x0, .slice vA_1_A aA_x1.length vA_1_c] 31)
  replace A := A.trans (hb1.mono A.size)
  have z1 := hb1.size
  have b1 := Bk.new w #[.bool aA_x0, .slice vA_1_A aA_x1.length vA_1_c] 31
  clear hb1
  have b1s := b1.1
  have b1c := b1.2
  go_wp2_with fail
  clear b1s b1c
  refine (u_sz_Trace aA_x0 _ aA_x1 _ _ (hA_1.below A) (by omega)).mono ?_
  rintro e w2 ⟨rfl, hb⟩
  replace b1 := b1.below hb
  replace A := A.trans (hb.mono A.size)
  have z2 := hb.size
  clear hb
  rw [szL_pos (by omega)]
  have b1s := b1.1
  have b1c := b1.2
  go_wp2_with fail
  clear b1s b1c
  refine (u_to_Trace aA_x0 _ aA_x1 _ (hA_1.below A) (by omega)).mono ?_
  rintro e w3 ⟨tA_v1, rfl, o3_1, hb⟩
  replace b1 := b1.below hb
  replace A := A.trans (hb.mono A.size)
  have z3 := hb.size
  clear hb
  obtain ⟨tA_v1_A, tA_v1_c, rfl⟩ := o3_1.opn
  have b1s := b1.1
  have b1c := b1.2
  go_wp2_with fail
  clear b1s b1c
  refine (HS.out _ _ o3_1.sl).mono ?_
  rintro e w4 ⟨w0_v1, rfl, r4_w0_1, hb⟩
  replace o3_1 := o3_1.below hb
  replace b1 := b1.below hb
  replace A := A.trans (hb.mono A.size)
  have z4 := hb.size
  clear hb
  obtain ⟨w0_v1_A, w0_v1_c, rfl⟩ := r4_w0_1.opn
  clear o3_1
  have hb5 := below_alloc' w4 (.cells #[.bool r0_x0, .slice w0_v1_A r0_x1.length w0_v1_c] 33)
  have y5 := size_alloc' w4 (.cells #[.bool r0_x0, .slice w0_v1_A r0_x1.length w0_v1_c] 33)
  replace r4_w0_1 := r4_w0_1.below hb5
  replace b1 := b1.below hb5
  replace A := A.trans (hb5.mono A.size)
  have z5 := hb5.size
  have b5 := Bk.new w4 #[.bool r0_x0, .slice w0_v1_A r0_x1.length w0_v1_c] 33
  clear hb5
  have b1s := b1.1
  have b1c := b1.2
  have b5s := b5.1
  have b5c := b5.2
  go_wp2_with fail
  clear b1s b1c b5s b5c
  refine (u_to_Trace aA_x0 _ aA_x1 _ (hA_1.below A) (by omega)).mono ?_
  rintro e w6 ⟨xA_v1, rfl, o6_1, hb⟩
  replace r4_w0_1 := r4_w0_1.below hb
  replace b1 := b1.below hb
  replace b5 := b5.below hb
  replace A := A.trans (hb.mono A.size)
  have z6 := hb.size
  clear hb
  obtain ⟨xA_v1_A, xA_v1_c, rfl⟩ := o6_1.opn
  have hb7 := below_alloc' w6 (.cells #[.bool aA_x0, .slice xA_v1_A aA_x1.length xA_v1_c] 33)
  have y7 := size_alloc' w6 (.cells #[.bool aA_x0, .slice xA_v1_A aA_x1.length xA_v1_c] 33)
  replace r4_w0_1 := r4_w0_1.below hb7
  replace o6_1 := o6_1.below hb7
  replace b1 := b1.below hb7
  replace b5 := b5.below hb7
  replace A := A.trans (hb7.mono A.size)
  have z7 := hb7.size
  have b7 := Bk.new w6 #[.bool aA_x0, .slice xA_v1_A aA_x1.length xA_v1_c] 33
  clear hb7
  have b1s := b1.1
  have b1c := b1.2
  have b5s := b5.1
  have b5c := b5.2
  have b7s := b7.1
  have b7c := b7.2
  go_wp2_with fail
  clear b1s b1c b5s b5c b7s b7c
  refine (HI.out _ _ o6_1.sl).mono ?_
  rintro e w8 ⟨g0_v1, rfl, r8_g0_1, hb⟩
  replace r4_w0_1 := r4_w0_1.below hb
  replace o6_1 := o6_1.below hb
  replace b1 := b1.below hb
  replace b5 := b5.below hb
  replace b7 := b7.below hb
  replace A := A.trans (hb.mono A.size)
  have z8 := hb.size
  clear hb
  obtain ⟨g0_v1_A, g0_v1_c, rfl⟩ := r8_g0_1.opn
  have hb9 := below_alloc' w8 (.cells #[.bool r0_x0, .slice g0_v1_A r0_x1.length g0_v1_c] 33)
  have y9 := size_alloc' w8 (.cells #[.bool r0_x0, .slice g0_v1_A r0_x1.length g0_v1_c] 33)
  replace r4_w0_1 := r4_w0_1.below hb9
  replace o6_1 := o6_1.below hb9
  replace r8_g0_1 := r8_g0_1.below hb9
  replace b1 := b1.below hb9
  replace b5 := b5.below hb9
  replace b7 := b7.below hb9
  replace A := A.trans (hb9.mono A.size)
  have z9 := hb9.size
  have b9 := Bk.new w8 #[.bool r0_x0, .slice g0_v1_A r0_x1.length g0_v1_c] 33
  clear hb9
  have b1s := b1.1
  have b1c := b1.2
  have b5s := b5.1
  have b5c := b5.2
  have b7s := b7.1
  have b7c := b7.2
  have b9s := b9.1
  have b9c := b9.2
  go_wp2_with fail
  clear b1s b1c b5s b5c b7s b7c b9s b9c
  refine (u_eq_Trace r0_x0 _ _ r0_x1 _ r8_g0_1.sl r4_w0_1.sl (by omega)).mono ?_
  rintro e w10 ⟨rfl, hb⟩
  replace r4_w0_1 := r4_w0_1.below hb
  replace o6_1 := o6_1.below hb
  replace r8_g0_1 := r8_g0_1.below hb
  replace b1 := b1.below hb
  replace b5 := b5.below hb
  replace b7 := b7.below hb
  replace b9 := b9.below hb
  replace A := A.trans (hb.mono A.size)
  have z10 := hb.size
  clear hb
  have b1s := b1.1
  have b1c := b1.2
  have b5s := b5.1
  have b5c := b5.2
  have b7s := b7.1
  have b7c := b7.2
  have b9s := b9.1
  have b9c := b9.2
  go_wp2_with fail
  clear b1s b1c b5s b5c b7s b7c b9s b9c
  have hq12_1 := hA_1.below A
  have c0 : w10.cell? ⟨w6.heap.size, 0, none⟩ = some (.bool aA_x0) := b7.2 0
  have c1 : w10.cell? ⟨w6.heap.size, 1, none⟩ = some (.slice xA_v1_A aA_x1.length xA_v1_c) := b7.2 1
  have d0 : w10.cell? ⟨w.heap.size, 0, none⟩ = some (.bool aA_x0) := b1.2 0
  have d1 : w10.cell? ⟨w.heap.size, 1, none⟩ = some (.slice vA_1_A aA_x1.length vA_1_c) := b1.2 1
  go_region_held3 (fun w' => w'.cell? ⟨w6.heap.size, 0, none⟩ = some (.bool aA_x0) ∧ w'.cell? ⟨w6.heap.size, 1, none⟩ = some (.slice xA_v1_A aA_x1.length xA_v1_c) ∧ w'.cell? ⟨w.heap.size, 0, none⟩ = some (.bool aA_x0) ∧ w'.cell? ⟨w.heap.size, 1, none⟩ = some (.slice vA_1_A aA_x1.length vA_1_c)) (first | exact ⟨c0'', c1'', d0'', d1''⟩ | exact ⟨c0', c1', d0', d1'⟩ | exact ⟨c0, c1, d0, d1⟩ | (simp [*]; done)) (first | (go_at_call 22; refine (u_to_Trace aA_x0 _ aA_x1 _ (hq12_1.below (below_drewN (Below.refl _ _) 1)) (by omega)).mono ?_; rintro e w11 ⟨y12_1, rfl, oy12_1, hbP⟩; obtain ⟨y12_1_A, y12_1_c, rfl⟩ := oy12_1.opn; have hbP1 : Below w10.heap.size w10 w11 := (below_drewN (Below.refl _ _) 1).trans hbP; have c0' := (hbP1.cell (p := ⟨w6.heap.size, 0, none⟩) b7.1).trans c0; have c1' := (hbP1.cell (p := ⟨w6.heap.size, 1, none⟩) b7.1).trans c1; have d0' := (hbP1.cell (p := ⟨w.heap.size, 0, none⟩) b1.1).trans d0; have d1' := (hbP1.cell (p := ⟨w.heap.size, 1, none⟩) b1.1).trans d1) | (go_at_call 24; refine (u_eq_Trace aA_x0 _ _ aA_x1 _ (o6_1.below hbP1).sl oy12_1.sl (by omega)).mono ?_; rintro e w12 ⟨rfl, hbQ⟩; have c0'' := (hbQ.cell (p := ⟨w6.heap.size, 0, none⟩) (b7.below hbP1).1).trans c0'; have c1'' := (hbQ.cell (p := ⟨w6.heap.size, 1, none⟩) (b7.below hbP1).1).trans c1'; have d0'' := (hbQ.cell (p := ⟨w.heap.size, 0, none⟩) (b1.below hbP1).1).trans d0'; have d1'' := (hbQ.cell (p := ⟨w.heap.size, 1, none⟩) (b1.below hbP1).1).trans d1'))
  have hb := bthen hbP1 hbQ
  clear c0'' c0' c0 c1'' c1' c1 d0'' d0' d0 d1'' d1' d1
  clear hbP hbQ hbP1 oy12_1
  clear hq12_1
  replace r4_w0_1 := r4_w0_1.below hb
  replace o6_1 := o6_1.below hb
  replace r8_g0_1 := r8_g0_1.below hb
  replace b1 := b1.below hb
  replace b5 := b5.below hb
  replace b7 := b7.below hb
  replace b9 := b9.below hb
  replace A := A.trans (hb.mono A.size)
  have z12 := hb.size
  clear hb
  have b1s := b1.1
  have b1c := b1.2
  have b5s := b5.1
  have b5c := b5.2
  have b7s := b7.1
  have b7c := b7.2
  have b9s := b9.1
  have b9c := b9.2
  go_wp2_with fail
  clear b1s b1c b5s b5c b7s b7c b9s b9c
  refine (u_mark_Trace aA_x0 _ aA_x1 _ _ _ _ o6_1 (by omega) (by omega)).mono ?_
  rintro e w13 ⟨rfl, no6_1, hk⟩
  replace r4_w0_1 := r4_w0_1.keep hk (by omega)
  replace r8_g0_1 := r8_g0_1.keep hk (by omega)
  clear o6_1; have o6_1 := no6_1; clear no6_1
  replace b1 := b1.keep hk (by omega)
  replace b5 := b5.keep hk (by omega)
  replace b7 := b7.keep hk (by omega)
  replace b9 := b9.keep hk (by omega)
  replace A := below_keep A hk (by omega) A.size
  have z13 := hk.size
  clear hk
  have b1s := b1.1
  have b1c := b1.2
  have b5s := b5.1
  have b5c := b5.2
  have b7s := b7.1
  have b7c := b7.2
  have b9s := b9.1
  have b9c := b9.2
  go_wp2_with fail
  clear b1s b1c b5s b5c b7s b7c b9s b9c
  refine (u_eq_Trace r0_x0 _ _ r0_x1 _ r8_g0_1.sl r4_w0_1.sl (by omega)).mono ?_
  rintro e w14 ⟨rfl, hb⟩
  replace r4_w0_1 := r4_w0_1.below hb
  replace o6_1 := o6_1.below hb
  replace r8_g0_1 := r8_g0_1.below hb
  replace b1 := b1.below hb
  replace b5 := b5.below hb
  replace b7 := b7.below hb
  replace b9 := b9.below hb
  replace A := A.trans (hb.mono A.size)
  have z14 := hb.size
  clear hb
  clear o6_1
  have b1s := b1.1
  have b1c := b1.2
  have b5s := b5.1
  have b5c := b5.2
  have b7s := b7.1
  have b7c := b7.2
  have b9s := b9.1
  have b9c := b9.2
  go_wp2_with fail
  clear b1s b1c b5s b5c b7s b7c b9s b9c
  refine (u_mark_Trace r0_x0 _ r0_x1 _ _ _ _ r8_g0_1 (by omega) (by omega)).mono ?_
  rintro e w15 ⟨rfl, nr8_g0_1, hk⟩
  replace r4_w0_1 := r4_w0_1.keep hk (by omega)
  clear r8_g0_1; have r8_g0_1 := nr8_g0_1; clear nr8_g0_1
  replace b1 := b1.keep hk (by omega)
  replace b5 := b5.keep hk (by omega)
  replace b7 := b7.keep hk (by omega)
  replace b9 := b9.keep hk (by omega)
  replace A := below_keep A hk (by omega) A.size
  have z15 := hk.size
  clear hk
  have b1s := b1.1
  have b1c := b1.2
  have b5s := b5.1
  have b5c := b5.2
  have b7s := b7.1
  have b7c := b7.2
  have b9s := b9.1
  have b9c := b9.2
  go_wp2_with fail
  clear b1s b1c b5s b5c b7s b7c b9s b9c
  refine (u_held_Trace r0_x0 _ r0_x1.length _ _ r8_g0_1.sl (by omega) (by omega)).mono ?_
  rintro e w16 ⟨rfl, hb⟩
  replace r4_w0_1 := r4_w0_1.below hb
  replace r8_g0_1 := r8_g0_1.below hb
  replace b1 := b1.below hb
  replace b5 := b5.below hb
  replace b7 := b7.below hb
  replace b9 := b9.below hb
  replace A := A.trans (hb.mono A.size)
  have z16 := hb.size
  clear hb
  have b1s := b1.1
  have b1c := b1.2
  have b5s := b5.1
  have b5c := b5.2
  have b7s := b7.1
  have b7c := b7.2
  have b9s := b9.1
  have b9c := b9.2
  go_wp2_with fail
  clear b1s b1c b5s b5c b7s b7c b9s b9c
  refine (u_to_Trace aA_x0 _ aA_x1 _ (hA_1.below A) (by omega)).mono ?_
  rintro e w17 ⟨sA_v1, rfl, o17_1, hb⟩
  replace r4_w0_1 := r4_w0_1.below hb
  replace r8_g0_1 := r8_g0_1.below hb
  replace b1 := b1.below hb
  replace b5 := b5.below hb
  replace b7 := b7.below hb
  replace b9 := b9.below hb
  replace A := A.trans (hb.mono A.size)
  have z17 := hb.size
  clear hb
  obtain ⟨sA_v1_A, sA_v1_c, rfl⟩ := o17_1.opn
  have b1s := b1.1
  have b1c := b1.2
  have b5s := b5.1
  have b5c := b5.2
  have b7s := b7.1
  have b7c := b7.2
  have b9s := b9.1
  have b9c := b9.2
  go_wp2_with fail
  clear b1s b1c b5s b5c b7s b7c b9s b9c
  refine (HI.out _ _ o17_1.sl).mono ?_
  rintro e w18 ⟨h0_v1, rfl, r18_h0_1, hb⟩
  replace r4_w0_1 := r4_w0_1.below hb
  replace r8_g0_1 := r8_g0_1.below hb
  replace o17_1 := o17_1.below hb
  replace b1 := b1.below hb
  replace b5 := b5.below hb
  replace b7 := b7.below hb
  replace b9 := b9.below hb
  replace A := A.trans (hb.mono A.size)
  have z18 := hb.size
  clear hb
  obtain ⟨h0_v1_A, h0_v1_c, rfl⟩ := r18_h0_1.opn
  clear o17_1
  have hb19 := below_alloc' w18 (.cells #[.bool r0_x0, .slice h0_v1_A r0_x1.length h0_v1_c] 33)
  have y19 := size_alloc' w18 (.cells #[.bool r0_x0, .slice h0_v1_A r0_x1.length h0_v1_c] 33)
  replace r4_w0_1 := r4_w0_1.below hb19
  replace r8_g0_1 := r8_g0_1.below hb19
  replace r18_h0_1 := r18_h0_1.below hb19
  replace b1 := b1.below hb19
  replace b5 := b5.below hb19
  replace b7 := b7.below hb19
  replace b9 := b9.below hb19
  replace A := A.trans (hb19.mono A.size)
  have z19 := hb19.size
  have b19 := Bk.new w18 #[.bool r0_x0, .slice h0_v1_A r0_x1.length h0_v1_c] 33
  clear hb19
  have b1s := b1.1
  have b1c := b1.2
  have b5s := b5.1
  have b5c := b5.2
  have b7s := b7.1
  have b7c := b7.2
  have b9s := b9.1
  have b9c := b9.2
  have b19s := b19.1
  have b19c := b19.2
  go_wp2_with fail
  clear b1s b1c b5s b5c b7s b7c b9s b9c b19s b19c
  refine (u_eq_Trace r0_x0 _ _ r0_x1 _ r18_h0_1.sl r4_w0_1.sl (by omega)).mono ?_
  rintro e w20 ⟨rfl, hb⟩
  replace r4_w0_1 := r4_w0_1.below hb
  replace r8_g0_1 := r8_g0_1.below hb
  replace r18_h0_1 := r18_h0_1.below hb
  replace b1 := b1.below hb
  replace b5 := b5.below hb
  replace b7 := b7.below hb
  replace b9 := b9.below hb
  replace b19 := b19.below hb
  replace A := A.trans (hb.mono A.size)
  have z20 := hb.size
  clear hb
  have b1s := b1.1
  have b1c := b1.2
  have b5s := b5.1
  have b5c := b5.2
  have b7s := b7.1
  have b7c := b7.2
  have b9s := b9.1
  have b9c := b9.2
  have b19s := b19.1
  have b19c := b19.2
  go_wp2_with fail
  clear b1s b1c b5s b5c b7s b7c b9s b9c b19s b19c
  refine (u_held_Trace r0_x0 _ r0_x1.length _ _ r8_g0_1.sl (by omega) (by omega)).mono ?_
  rintro e w21 ⟨rfl, hb⟩
  replace r4_w0_1 := r4_w0_1.below hb
  replace r8_g0_1 := r8_g0_1.below hb
  replace r18_h0_1 := r18_h0_1.below hb
  replace b1 := b1.below hb
  replace b5 := b5.below hb
  replace b7 := b7.below hb
  replace b9 := b9.below hb
  replace b19 := b19.below hb
  replace A := A.trans (hb.mono A.size)
  have z21 := hb.size
  clear hb
  have b1s := b1.1
  have b1c := b1.2
  have b5s := b5.1
  have b5c := b5.2
  have b7s := b7.1
  have b7c := b7.2
  have b9s := b9.1
  have b9c := b9.2
  have b19s := b19.1
  have b19c := b19.2
  have BB := Lib.hid A; clear A
  clear r4_w0_1 r8_g0_1 r18_h0_1
  go_wp2
  go_ret
  exact ⟨rfl, BB.out⟩
theorem final_BoxTrace (b : Bool) (v : Value) (xs : List Int) (w : World) (h : Sl cI w v xs) :
    Calls Try.prog 6 #[.agg #[.bool b, v]] w fun e w' => e = .returned (.bool true) ∧ Below w.heap.size w w' := by
  cases hc : okT xs
  · exact walk_BoxTrace b v _ false [] 1 w h (by simp) (Lib.hid fun hl W u hu => (spec_BoxTrace_bad u b xs W hu hl hc).mono fun e w' ⟨he, hb⟩ => ⟨_, he, (Ow.nil _ _).ob, hb⟩)
      (Lib.hid fun hl W u hu => (impl_BoxTrace_bad u b xs W hu hl hc).mono fun e w' ⟨he, hb⟩ => ⟨_, he, (Ow.nil _ _).ob, hb⟩)
  · cases hA : (!b && decide (xs.length = 0))
    · have hf := ff_fs hc hA
      rcases Nat.lt_or_ge 60 (fsT b xs 62 0) with q | q
      · exact walk_BoxTrace b v _ false [] 3 w h (by simp) (Lib.hid fun hl W u hu => (spec_BoxTrace_big u b xs W hu hl hc hA q).mono fun e w' ⟨he, hb⟩ => ⟨_, he, (Ow.nil _ _).ob, hb⟩)
          (Lib.hid fun hl W u hu => (impl_BoxTrace_all u b xs W hu hl hc _ 3 rfl (.inr ⟨hf.2 q, rfl⟩)).mono fun e w' ⟨he, hb⟩ => ⟨_, he, (Ow.nil _ _).ob, hb⟩)
      · exact walk_BoxTrace b v _ true (shL (fsT b xs 62 0 + 1)) 0 w h (by rw [shL_length]; omega) (Lib.hid fun hl W u hu => (spec_BoxTrace_ok u b xs W hu hl hc _ hA ⟨rfl, q⟩).mono fun e w' ⟨u, he, ho, hb⟩ => ⟨u, he, ho.ob, hb⟩)
          (Lib.hid fun hl W u hu => (impl_BoxTrace_ok u b xs W hu hl hc _ (hf.1 q) q).mono fun e w' ⟨u, he, ho, hb⟩ => ⟨u, he, ho.ob, hb⟩)
    · obtain ⟨rfl, rfl⟩ : b = false ∧ xs = [] := by
        simp only [Bool.and_eq_true, Bool.not_eq_true', decide_eq_true_eq] at hA
        exact ⟨hA.1, List.eq_nil_of_length_eq_zero hA.2⟩
      exact walk_BoxTrace false v _ false [] 0 w h (by simp) (Lib.hid fun hl W u hu => (spec_BoxTrace_all u false [] W hu hl hc hA trivial).mono fun e w' ⟨u, he, ho, hb⟩ => ⟨u, he, ho.ob, hb⟩)
        (Lib.hid fun hl W u hu => (impl_BoxTrace_all u false [] W hu hl hc (-1) 0 rfl (.inl ⟨by decide, rfl⟩)).mono fun e w' ⟨he, hb⟩ => ⟨_, he, (Ow.nil _ _).ob, hb⟩)
end Go.Proofs.Ytbmknlfpaggbnaa

/- The walk of the law FnExactBisimulationClasses, written by program: it returns true and writes nothing that was there. -/
import Derived.Test.YtbejakkcdbhmaaaLUs
import Derived.Test.YtbejakkcdbhmaaaLM
import Derived.Test.YtbejakkcdbhmaaaOpM
import Derived.Test.Ytbejakkcdbhmaaa07l
namespace Go.Proofs.Ytbejakkcdbhmaaa
open Go.RowKit
set_option linter.unusedVariables false
set_option linter.unusedSimpArgs false
theorem walk_BisimulationClasses (aM_x0 : Int) (vM_1 : Value) (aM_x1 : List Int) (vM_2 : Value) (aM_x2 : List Int) (r0_x0 : List Int) (r1_x0 : Int) (w : World) (hM_1 : Sl cI w vM_1 aM_x1) (hM_2 : Sl cI w vM_2 aM_x2) (hr0_0 : r0_x0.length ≤ 1048576)
    (HS : Hid (aM_x1.length + aM_x2.length ≤ 1048576 → ∀ (W : World) (vM_1 : Value) (vM_2 : Value), Sl cI W vM_1 aM_x1 → Sl cI W vM_2 aM_x2 → Calls Try.prog 58 #[.agg #[.int .i64 aM_x0, vM_1, vM_2]] W fun e w' => ∃ u0_0 : Value, e = .returned (.tuple #[u0_0, .int .i64 r1_x0]) ∧ Ob cI 2 W.heap.size w'.heap.size w' u0_0 r0_x0 ∧ Below W.heap.size W w'))
    (HI : Hid (aM_x1.length + aM_x2.length ≤ 1048576 → ∀ (W : World) (vM_1 : Value) (vM_2 : Value), Sl cI W vM_1 aM_x1 → Sl cI W vM_2 aM_x2 → Calls Try.prog 60 #[.agg #[.int .i64 aM_x0, vM_1, vM_2]] W fun e w' => ∃ u0_0 : Value, e = .returned (.tuple #[u0_0, .int .i64 r1_x0]) ∧ Ob cI 2 W.heap.size w'.heap.size w' u0_0 r0_x0 ∧ Below W.heap.size W w')) :
    Calls Try.prog 13 #[.agg #[.int .i64 aM_x0, vM_1, vM_2]] w fun e w' => e = .returned (.bool true) ∧ Below w.heap.size w w' := by
  rcases Nat.lt_or_ge 1048576 (aM_x1.length + aM_x2.length) with q0 | q0
  · obtain ⟨vM_1_A, vM_1_c, rfl⟩ := hM_1.opn
    obtain ⟨vM_2_A, vM_2_c, rfl⟩ := hM_2.opn
    have A := Below.refl w.heap.size w
    go_enter Try.func13, Try.ntmps13
    have hb1 := below_alloc' w (.cells #[.int .i64 aM_x0, .slice vM_1_A aM_x1.length vM_1_c, .slice vM_2_A aM_x2.length vM_2_c] 72)
    have y1 := size_alloc' w (.cells #[.int .i64 aM_x0, .slice vM_1_A aM_x1.length vM_1_c, .slice vM_2_A aM_x2.length vM_2_c] 72)
    replace A := A.trans (hb1.mono A.size)
    have z1 := hb1.size
    have b1 := Bk.new w #[.int .i64 aM_x0, .slice vM_1_A aM_x1.length vM_1_c, .slice vM_2_A aM_x2.length vM_2_c] 72
    clear hb1
    have b1s := b1.1
    have b1c := b1.2
    go_wp2_with fail
    clear b1s b1c
    refine (u_sz_Model aM_x0 _ aM_x1 _ aM_x2 _ _ (hM_1.below A) (hM_2.below A) (by omega)).mono ?_
    rintro e w2 ⟨rfl, hb⟩
    replace b1 := b1.below hb
    replace A := A.trans (hb.mono A.size)
    have z2 := hb.size
    clear hb
    rw [szL_neg (by omega)]
    have b1s := b1.1
    have b1c := b1.2
    have BB := Lib.hid A; clear A
    go_wp2
    go_ret
    exact ⟨rfl, BB.out⟩
  have HS := Lib.hid (HS.out (by omega))
  have HI := Lib.hid (HI.out (by omega))
  obtain ⟨vM_1_A, vM_1_c, rfl⟩ := hM_1.opn
  obtain ⟨vM_2_A, vM_2_c, rfl⟩ := hM_2.opn
  have A := Below.refl w.heap.size w
  go_enter Try.func13, Try.ntmps13
  have hb1 := below_alloc' w (.cells #[.int .i64 aM_x0, .slice vM_1_A aM_x1.length vM_1_c, .slice vM_2_A aM_x2.length vM_2_c] 72)
  have y1 := size_alloc' w (.cells #[.int .i64 aM_x0, .slice vM_1_A aM_x1.length vM_1_c, .slice vM_2_A aM_x2.length vM_2_c] 72)
  replace A := A.trans (hb1.mono A.size)
  have z1 := hb1.size
  have b1 := Bk.new w #[.int .i64 aM_x0, .slice vM_1_A aM_x1.length vM_1_c, .slice vM_2_A aM_x2.length vM_2_c] 72
  clear hb1
  have b1s := b1.1
  have b1c := b1.2
  go_wp2_with fail
  clear b1s b1c
  refine (u_sz_Model aM_x0 _ aM_x1 _ aM_x2 _ _ (hM_1.below A) (hM_2.below A) (by omega)).mono ?_
  rintro e w2 ⟨rfl, hb⟩
  replace b1 := b1.below hb
  replace A := A.trans (hb.mono A.size)
  have z2 := hb.size
  clear hb
  rw [szL_pos (by omega)]
  have b1s := b1.1
  have b1c := b1.2
  go_wp2_with fail
  clear b1s b1c
  refine (u_to_Model aM_x0 _ aM_x1 _ aM_x2 _ (hM_1.below A) (hM_2.below A) (by omega)).mono ?_
  rintro e w3 ⟨tM_v1, tM_v2, H3_, rfl, hH3_a, hH3_b, o3_1, o3_2, hb⟩
  replace b1 := b1.below hb
  replace A := A.trans (hb.mono A.size)
  have z3 := hb.size
  clear hb
  obtain ⟨tM_v1_A, tM_v1_c, rfl⟩ := o3_1.opn
  obtain ⟨tM_v2_A, tM_v2_c, rfl⟩ := o3_2.opn
  have b1s := b1.1
  have b1c := b1.2
  go_wp2_with fail
  clear b1s b1c
  refine (HS.out _ _ _ o3_1.sl o3_2.sl).mono ?_
  rintro e w4 ⟨w0_v0, rfl, r4_w0_0, hb⟩
  replace o3_1 := o3_1.below hb
  replace o3_2 := o3_2.below hb
  replace b1 := b1.below hb
  replace A := A.trans (hb.mono A.size)
  have z4 := hb.size
  clear hb
  clear o3_1
  clear o3_2
  have b1s := b1.1
  have b1c := b1.2
  go_wp2_with fail
  clear b1s b1c
  refine (u_to_Model aM_x0 _ aM_x1 _ aM_x2 _ (hM_1.below A) (hM_2.below A) (by omega)).mono ?_
  rintro e w5 ⟨xM_v1, xM_v2, H5_, rfl, hH5_a, hH5_b, o5_1, o5_2, hb⟩
  replace r4_w0_0 := r4_w0_0.below hb
  replace b1 := b1.below hb
  replace A := A.trans (hb.mono A.size)
  have z5 := hb.size
  clear hb
  obtain ⟨xM_v1_A, xM_v1_c, rfl⟩ := o5_1.opn
  obtain ⟨xM_v2_A, xM_v2_c, rfl⟩ := o5_2.opn
  have hb6 := below_alloc' w5 (.cells #[.int .i64 aM_x0, .slice xM_v1_A aM_x1.length xM_v1_c, .slice xM_v2_A aM_x2.length xM_v2_c] 77)
  have y6 := size_alloc' w5 (.cells #[.int .i64 aM_x0, .slice xM_v1_A aM_x1.length xM_v1_c, .slice xM_v2_A aM_x2.length xM_v2_c] 77)
  replace r4_w0_0 := r4_w0_0.below hb6
  replace o5_1 := o5_1.below hb6
  replace o5_2 := o5_2.below hb6
  replace b1 := b1.below hb6
  replace A := A.trans (hb6.mono A.size)
  have z6 := hb6.size
  have b6 := Bk.new w5 #[.int .i64 aM_x0, .slice xM_v1_A aM_x1.length xM_v1_c, .slice xM_v2_A aM_x2.length xM_v2_c] 77
  clear hb6
  have b1s := b1.1
  have b1c := b1.2
  have b6s := b6.1
  have b6c := b6.2
  go_wp2_with fail
  clear b1s b1c b6s b6c
  refine (HI.out _ _ _ o5_1.sl o5_2.sl).mono ?_
  rintro e w7 ⟨g0_v0, rfl, r7_g0_0, hb⟩
  replace r4_w0_0 := r4_w0_0.below hb
  replace o5_1 := o5_1.below hb
  replace o5_2 := o5_2.below hb
  replace b1 := b1.below hb
  replace b6 := b6.below hb
  replace A := A.trans (hb.mono A.size)
  have z7 := hb.size
  clear hb
  have b1s := b1.1
  have b1c := b1.2
  have b6s := b6.1
  have b6c := b6.2
  go_wp2_with fail
  clear b1s b1c b6s b6c
  refine (u_eq_SI _ _ r0_x0 _ r7_g0_0.sl r4_w0_0.sl (by omega)).mono ?_
  rintro e w8 ⟨rfl, hb⟩
  replace r4_w0_0 := r4_w0_0.below hb
  replace o5_1 := o5_1.below hb
  replace o5_2 := o5_2.below hb
  replace r7_g0_0 := r7_g0_0.below hb
  replace b1 := b1.below hb
  replace b6 := b6.below hb
  replace A := A.trans (hb.mono A.size)
  have z8 := hb.size
  clear hb
  have b1s := b1.1
  have b1c := b1.2
  have b6s := b6.1
  have b6c := b6.2
  go_wp2_with fail
  clear b1s b1c b6s b6c
  have hq10_1 := hM_1.below A
  have hq10_2 := hM_2.below A
  have c0 : w8.cell? ⟨w5.heap.size, 0, none⟩ = some (.int .i64 aM_x0) := b6.2 0
  have c1 : w8.cell? ⟨w5.heap.size, 1, none⟩ = some (.slice xM_v1_A aM_x1.length xM_v1_c) := b6.2 1
  have c2 : w8.cell? ⟨w5.heap.size, 2, none⟩ = some (.slice xM_v2_A aM_x2.length xM_v2_c) := b6.2 2
  have d0 : w8.cell? ⟨w.heap.size, 0, none⟩ = some (.int .i64 aM_x0) := b1.2 0
  have d1 : w8.cell? ⟨w.heap.size, 1, none⟩ = some (.slice vM_1_A aM_x1.length vM_1_c) := b1.2 1
  have d2 : w8.cell? ⟨w.heap.size, 2, none⟩ = some (.slice vM_2_A aM_x2.length vM_2_c) := b1.2 2
  go_region_held3 (fun w' => w'.cell? ⟨w5.heap.size, 0, none⟩ = some (.int .i64 aM_x0) ∧ w'.cell? ⟨w5.heap.size, 1, none⟩ = some (.slice xM_v1_A aM_x1.length xM_v1_c) ∧ w'.cell? ⟨w5.heap.size, 2, none⟩ = some (.slice xM_v2_A aM_x2.length xM_v2_c) ∧ w'.cell? ⟨w.heap.size, 0, none⟩ = some (.int .i64 aM_x0) ∧ w'.cell? ⟨w.heap.size, 1, none⟩ = some (.slice vM_1_A aM_x1.length vM_1_c) ∧ w'.cell? ⟨w.heap.size, 2, none⟩ = some (.slice vM_2_A aM_x2.length vM_2_c)) (first | exact ⟨c0'', c1'', c2'', d0'', d1'', d2''⟩ | exact ⟨c0', c1', c2', d0', d1', d2'⟩ | exact ⟨c0, c1, c2, d0, d1, d2⟩ | (simp [*]; done)) (first | (go_at_call 59; refine (u_to_Model aM_x0 _ aM_x1 _ aM_x2 _ (hq10_1.below (below_drewN (Below.refl _ _) 1)) (hq10_2.below (below_drewN (Below.refl _ _) 1)) (by omega)).mono ?_; rintro e w9 ⟨y10_1, y10_2, Hy10_, rfl, hHy10_a, hHy10_b, oy10_1, oy10_2, hbP⟩; obtain ⟨y10_1_A, y10_1_c, rfl⟩ := oy10_1.opn; obtain ⟨y10_2_A, y10_2_c, rfl⟩ := oy10_2.opn; have hbP1 : Below w8.heap.size w8 w9 := (below_drewN (Below.refl _ _) 1).trans hbP; have c0' := (hbP1.cell (p := ⟨w5.heap.size, 0, none⟩) b6.1).trans c0; have c1' := (hbP1.cell (p := ⟨w5.heap.size, 1, none⟩) b6.1).trans c1; have c2' := (hbP1.cell (p := ⟨w5.heap.size, 2, none⟩) b6.1).trans c2; have d0' := (hbP1.cell (p := ⟨w.heap.size, 0, none⟩) b1.1).trans d0; have d1' := (hbP1.cell (p := ⟨w.heap.size, 1, none⟩) b1.1).trans d1; have d2' := (hbP1.cell (p := ⟨w.heap.size, 2, none⟩) b1.1).trans d2) | (go_at_call 61; refine (u_eq_Model aM_x0 _ _ aM_x1 _ _ aM_x2 _ (o5_1.below hbP1).sl (o5_2.below hbP1).sl oy10_1.sl oy10_2.sl (by omega)).mono ?_; rintro e w10 ⟨rfl, hbQ⟩; have c0'' := (hbQ.cell (p := ⟨w5.heap.size, 0, none⟩) (b6.below hbP1).1).trans c0'; have c1'' := (hbQ.cell (p := ⟨w5.heap.size, 1, none⟩) (b6.below hbP1).1).trans c1'; have c2'' := (hbQ.cell (p := ⟨w5.heap.size, 2, none⟩) (b6.below hbP1).1).trans c2'; have d0'' := (hbQ.cell (p := ⟨w.heap.size, 0, none⟩) (b1.below hbP1).1).trans d0'; have d1'' := (hbQ.cell (p := ⟨w.heap.size, 1, none⟩) (b1.below hbP1).1).trans d1'; have d2'' := (hbQ.cell (p := ⟨w.heap.size, 2, none⟩) (b1.below hbP1).1).trans d2'))
  have hb := bthen hbP1 hbQ
  clear c0'' c0' c0 c1'' c1' c1 c2'' c2' c2 d0'' d0' d0 d1'' d1' d1 d2'' d2' d2
  clear hbP hbQ hbP1 oy10_1 oy10_2
  clear hq10_1
  clear hq10_2
  replace r4_w0_0 := r4_w0_0.below hb
  replace o5_1 := o5_1.below hb
  replace o5_2 := o5_2.below hb
  replace r7_g0_0 := r7_g0_0.below hb
  replace b1 := b1.below hb
  replace b6 := b6.below hb
  replace A := A.trans (hb.mono A.size)
  have z10 := hb.size
  clear hb
  have b1s := b1.1
  have b1c := b1.2
  have b6s := b6.1
  have b6c := b6.2
  go_wp2_with fail
  clear b1s b1c b6s b6c
  refine (u_mark_Model aM_x0 _ aM_x1 _ aM_x2 _ _ _ _ _ o5_1 o5_2 (by omega) (by omega) (by omega)).mono ?_
  rintro e w11 ⟨rfl, no5_1, no5_2, hk⟩
  replace r4_w0_0 := r4_w0_0.keep hk (by omega)
  replace r7_g0_0 := r7_g0_0.keep hk (by omega)
  clear o5_1; have o5_1 := no5_1; clear no5_1
  clear o5_2; have o5_2 := no5_2; clear no5_2
  replace b1 := b1.keep hk (by omega)
  replace b6 := b6.keep hk (by omega)
  replace A := below_keep A hk (by omega) A.size
  have z11 := hk.size
  clear hk
  have b1s := b1.1
  have b1c := b1.2
  have b6s := b6.1
  have b6c := b6.2
  go_wp2_with fail
  clear b1s b1c b6s b6c
  refine (u_eq_SI _ _ r0_x0 _ r7_g0_0.sl r4_w0_0.sl (by omega)).mono ?_
  rintro e w12 ⟨rfl, hb⟩
  replace r4_w0_0 := r4_w0_0.below hb
  replace o5_1 := o5_1.below hb
  replace o5_2 := o5_2.below hb
  replace r7_g0_0 := r7_g0_0.below hb
  replace b1 := b1.below hb
  replace b6 := b6.below hb
  replace A := A.trans (hb.mono A.size)
  have z12 := hb.size
  clear hb
  clear o5_1
  clear o5_2
  have b1s := b1.1
  have b1c := b1.2
  have b6s := b6.1
  have b6c := b6.2
  go_wp2_with fail
  clear b1s b1c b6s b6c
  refine (u_mark_SI _ r0_x0 _ _ _ _ r7_g0_0 (by omega) (by omega)).mono ?_
  rintro e w13 ⟨rfl, nr7_g0_0, hk⟩
  replace r4_w0_0 := r4_w0_0.keep hk (by omega)
  clear r7_g0_0; have r7_g0_0 := nr7_g0_0; clear nr7_g0_0
  replace b1 := b1.keep hk (by omega)
  replace b6 := b6.keep hk (by omega)
  replace A := below_keep A hk (by omega) A.size
  have z13 := hk.size
  clear hk
  have b1s := b1.1
  have b1c := b1.2
  have b6s := b6.1
  have b6c := b6.2
  go_wp2_with fail
  clear b1s b1c b6s b6c
  refine (u_held_SI _ r0_x0.length _ _ r7_g0_0.sl (by omega) (by omega)).mono ?_
  rintro e w14 ⟨rfl, hb⟩
  replace r4_w0_0 := r4_w0_0.below hb
  replace r7_g0_0 := r7_g0_0.below hb
  replace b1 := b1.below hb
  replace b6 := b6.below hb
  replace A := A.trans (hb.mono A.size)
  have z14 := hb.size
  clear hb
  have b1s := b1.1
  have b1c := b1.2
  have b6s := b6.1
  have b6c := b6.2
  go_wp2_with fail
  clear b1s b1c b6s b6c
  refine (u_to_Model aM_x0 _ aM_x1 _ aM_x2 _ (hM_1.below A) (hM_2.below A) (by omega)).mono ?_
  rintro e w15 ⟨sM_v1, sM_v2, H15_, rfl, hH15_a, hH15_b, o15_1, o15_2, hb⟩
  replace r4_w0_0 := r4_w0_0.below hb
  replace r7_g0_0 := r7_g0_0.below hb
  replace b1 := b1.below hb
  replace b6 := b6.below hb
  replace A := A.trans (hb.mono A.size)
  have z15 := hb.size
  clear hb
  obtain ⟨sM_v1_A, sM_v1_c, rfl⟩ := o15_1.opn
  obtain ⟨sM_v2_A, sM_v2_c, rfl⟩ := o15_2.opn
  have b1s := b1.1
  have b1c := b1.2
  have b6s := b6.1
  have b6c := b6.2
  go_wp2_with fail
  clear b1s b1c b6s b6c
  refine (HI.out _ _ _ o15_1.sl o15_2.sl).mono ?_
  rintro e w16 ⟨h0_v0, rfl, r16_h0_0, hb⟩
  replace r4_w0_0 := r4_w0_0.below hb
  replace r7_g0_0 := r7_g0_0.below hb
  replace o15_1 := o15_1.below hb
  replace o15_2 := o15_2.below hb
  replace b1 := b1.below hb
  replace b6 := b6.below hb
  replace A := A.trans (hb.mono A.size)
  have z16 := hb.size
  clear hb
  clear o15_1
  clear o15_2
  have b1s := b1.1
  have b1c := b1.2
  have b6s := b6.1
  have b6c := b6.2
  go_wp2_with fail
  clear b1s b1c b6s b6c
  refine (u_eq_SI _ _ r0_x0 _ r16_h0_0.sl r4_w0_0.sl (by omega)).mono ?_
  rintro e w17 ⟨rfl, hb⟩
  replace r4_w0_0 := r4_w0_0.below hb
  replace r7_g0_0 := r7_g0_0.below hb
  replace r16_h0_0 := r16_h0_0.below hb
  replace b1 := b1.below hb
  replace b6 := b6.below hb
  replace A := A.trans (hb.mono A.size)
  have z17 := hb.size
  clear hb
  have b1s := b1.1
  have b1c := b1.2
  have b6s := b6.1
  have b6c := b6.2
  go_wp2_with fail
  clear b1s b1c b6s b6c
  refine (u_held_SI _ r0_x0.length _ _ r7_g0_0.sl (by omega) (by omega)).mono ?_
  rintro e w18 ⟨rfl, hb⟩
  replace r4_w0_0 := r4_w0_0.below hb
  replace r7_g0_0 := r7_g0_0.below hb
  replace r16_h0_0 := r16_h0_0.below hb
  replace b1 := b1.below hb
  replace b6 := b6.below hb
  replace A := A.trans (hb.mono A.size)
  have z18 := hb.size
  clear hb
  have b1s := b1.1
  have b1c := b1.2
  have b6s := b6.1
  have b6c := b6.2
  have BB := Lib.hid A; clear A
  clear r4_w0_0 r7_g0_0 r16_h0_0
  go_wp2
  go_ret
  exact ⟨rfl, BB.out⟩
theorem mod_opn {va vu : Value} {ns us : List Nat} {w : World} (ha : Sl cI w va (li ns)) (hu : Sl cI w vu (li us)) (h6 : us.length = 6) : ∃ A0 c0 A1 c1, va = .slice A0 ns.length c0 ∧ vu = .slice A1 6 c1 := by
  obtain ⟨A0, c0, rfl⟩ := ha.opn
  obtain ⟨A1, c1, rfl⟩ := hu.opn
  exact ⟨A0, c0, A1, c1, by rw [li_length], by rw [li_length, h6]⟩
theorem final_BisimulationClasses (n : Int) (va : Value) (xs : List Int) (vu : Value) (vs : List Int) (w : World) (ha : Sl cI w va xs) (hu : Sl cI w vu vs) :
    Calls Try.prog 13 #[.agg #[.int .i64 n, va, vu]] w fun e w' => e = .returned (.bool true) ∧ Below w.heap.size w w' := by
  cases hc : mdOk n xs vs
  · exact walk_BisimulationClasses n va xs vu vs [] 1 w ha hu (by simp)
      (Lib.hid fun h1 W va vu ha hu => (spec_BisimulationClasses_bad n va vu xs vs W ha hu (by omega) (by omega) hc).mono fun e w' ⟨he, hb⟩ => ⟨_, he, (Ow.nil _ _).ob, hb⟩)
      (Lib.hid fun h1 W va vu ha hu => (impl_BisimulationClasses_bad n va vu xs vs W ha hu (by omega) (by omega) hc).mono fun e w' ⟨he, hb⟩ => ⟨_, he, (Ow.nil _ _).ob, hb⟩)
  · obtain ⟨ns, us, rfl, rfl, rfl, hr, h6, hb⟩ := mdOk_iff hc
    have hN : MdN ns us := ⟨hr, h6, hb⟩
    refine walk_BisimulationClasses _ va _ vu _ (li (bcl ns us ns.length).1) 0 w ha hu (by rw [li_length, bcl, dvd_length]; have := hr.1; omega) (Lib.hid fun h1 W va vu ha hu => ?_) (Lib.hid fun h1 W va vu ha hu => ?_)
    · obtain ⟨A0, c0, A1, c1, rfl, rfl⟩ := mod_opn ha hu h6
      exact (spec_BisimulationClasses_ok ns us A0 A1 c0 c1 W ⟨ha, hu⟩ hN hc).mono fun e w' ⟨u, he, ho, hb⟩ => ⟨u, he, ho.ob, hb⟩
    · obtain ⟨A0, c0, A1, c1, rfl, rfl⟩ := mod_opn ha hu h6
      exact (impl_BisimulationClasses_ok ns us A0 A1 c0 c1 W ⟨ha, hu⟩ hN hc).mono fun e w' ⟨u, he, ho, hb⟩ => ⟨u, he, ho.ob, hb⟩
end Go.Proofs.Ytbejakkcdbhmaaa

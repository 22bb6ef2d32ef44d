/- The walk of the law FnExactMergeAlike, written by program: it returns true and writes nothing that was there. -/
import Derived.Test.YtomojninngdbeaaLB
import Derived.Test.YtomojninngdbeaaLP
import Derived.Test.Ytomojninngdbeaa24F
import Derived.Test.Ytomojninngdbeaa24G
namespace Go.Proofs.Ytomojninngdbeaa
open Go.RowKit
set_option linter.unusedVariables false
set_option linter.unusedSimpArgs false
set_option maxHeartbeats 1000000 in
set_option maxRecDepth 100000 in
theorem walk_MergeAlike (aP_x0 : Int) (vP_1 : Value) (aP_x1 : List Int) (vValues_0 : Value) (aValues_x0 : List Int) (r0_x0 : Int) (r0_x1 : List Int) (r1_x0 : List Int) (r2_x0 : List Int) (r3_x0 : Int) (w : World) (hP_1 : Sl cI w vP_1 aP_x1) (hValues_0 : Sl cI w vValues_0 aValues_x0) (hr0_1 : r0_x1.length ≤ 1048576) (hr1_0 : r1_x0.length ≤ 1048576) (hr2_0 : r2_x0.length ≤ 1048576)
    (HS : Hid (aValues_x0.length ≤ 1048576 → aP_x1.length ≤ 1048576 → ∀ (W : World) (vP_1 : Value) (vValues_0 : Value), Sl cI W vP_1 aP_x1 → Sl cI W vValues_0 aValues_x0 → Calls Try.prog 7 #[.agg #[.int .i64 aP_x0, vP_1], vValues_0] W fun e w' => ∃ u0_1 u1_0 u2_0 : Value, e = .returned (.tuple #[.agg #[.int .i64 r0_x0, u0_1], u1_0, u2_0, .int .i64 r3_x0]) ∧ Ob cI 2 W.heap.size w'.heap.size w' u0_1 r0_x1 ∧ Ob cI 2 W.heap.size w'.heap.size w' u1_0 r1_x0 ∧ Ob cI 2 W.heap.size w'.heap.size w' u2_0 r2_x0 ∧ Below W.heap.size W w'))
    (HI : Hid (aValues_x0.length ≤ 1048576 → aP_x1.length ≤ 1048576 → ∀ (W : World) (vP_1 : Value) (vValues_0 : Value), Sl cI W vP_1 aP_x1 → Sl cI W vValues_0 aValues_x0 → Calls Try.prog 10 #[.agg #[.int .i64 aP_x0, vP_1], vValues_0] W fun e w' => ∃ u0_1 u1_0 u2_0 : Value, ∃ Hc0 Hc1 : Nat, e = .returned (.tuple #[.agg #[.int .i64 r0_x0, u0_1], u1_0, u2_0, .int .i64 r3_x0]) ∧ W.heap.size ≤ Hc0 ∧ Hc0 ≤ Hc1 ∧ Hc1 ≤ w'.heap.size ∧ Ob cI 2 Hc0 Hc1 w' u0_1 r0_x1 ∧ Ob cI 2 Hc1 w'.heap.size w' u1_0 r1_x0 ∧ Ob cI 2 W.heap.size Hc0 w' u2_0 r2_x0 ∧ Below W.heap.size W w')) :
    Calls Try.prog 3 #[.agg #[.int .i64 aP_x0, vP_1], vValues_0] w fun e w' => e = .returned (.bool true) ∧ Below w.heap.size w w' := by
  rcases Nat.lt_or_ge 1048576 (aValues_x0.length) with ql0 | ql0
  · obtain ⟨vP_1_A, vP_1_c, rfl⟩ := hP_1.opn
    obtain ⟨vValues_0_A, vValues_0_c, rfl⟩ := hValues_0.opn
    have ql0 : decide ((1048576 : Int) < (aValues_x0.length : Int)) = true := decide_eq_true (by omega)
    have A := Below.refl w.heap.size w
    go_enter Try.func3, Try.ntmps3
    have hb1 := below_alloc' w (.cells #[.int .i64 aP_x0, .slice vP_1_A aP_x1.length vP_1_c] 24)
    have y1 := size_alloc' w (.cells #[.int .i64 aP_x0, .slice vP_1_A aP_x1.length vP_1_c] 24)
    replace A := A.trans (hb1.mono A.size)
    have z1 := hb1.size
    have b1 := Bk.new w #[.int .i64 aP_x0, .slice vP_1_A aP_x1.length vP_1_c] 24
    clear hb1
    have b1s := b1.1
    have b1c := b1.2
    have BB := Lib.hid A; clear A
    go_wp2
    go_ret
    exact ⟨rfl, BB.out⟩
  rcases Nat.lt_or_ge 1048576 (aP_x1.length) with q0 | q0
  · obtain ⟨vP_1_A, vP_1_c, rfl⟩ := hP_1.opn
    obtain ⟨vValues_0_A, vValues_0_c, rfl⟩ := hValues_0.opn
    have ql0 : decide ((1048576 : Int) < (aValues_x0.length : Int)) = false := decide_eq_false (by omega)
    have A := Below.refl w.heap.size w
    go_enter Try.func3, Try.ntmps3
    have hb1 := below_alloc' w (.cells #[.int .i64 aP_x0, .slice vP_1_A aP_x1.length vP_1_c] 24)
    have y1 := size_alloc' w (.cells #[.int .i64 aP_x0, .slice vP_1_A aP_x1.length vP_1_c] 24)
    replace A := A.trans (hb1.mono A.size)
    have z1 := hb1.size
    have b1 := Bk.new w #[.int .i64 aP_x0, .slice vP_1_A aP_x1.length vP_1_c] 24
    clear hb1
    have b1s := b1.1
    have b1c := b1.2
    go_wp2_with fail
    clear b1s b1c
    refine (u_sz_Poset aP_x0 _ aP_x1 _ _ (hP_1.below A) (by omega)).mono ?_
    rintro e w2 ⟨rfl, hb⟩
    replace b1 := b1.below hb
    replace A := A.trans (hb.mono A.size)
    have z2 := hb.size
    clear hb
    rw [szL_neg (by omega)]
    have b1s := b1.1
    have b1c := b1.2
    have BB := Lib.hid A; clear A
    go_wp2
    go_ret
    exact ⟨rfl, BB.out⟩
  have HS := Lib.hid (HS.out (by omega) (by omega))
  have HI := Lib.hid (HI.out (by omega) (by omega))
  obtain ⟨vP_1_A, vP_1_c, rfl⟩ := hP_1.opn
  obtain ⟨vValues_0_A, vValues_0_c, rfl⟩ := hValues_0.opn
  have ql0 : decide ((1048576 : Int) < (aValues_x0.length : Int)) = false := decide_eq_false (by omega)
  have A := Below.refl w.heap.size w
  go_enter Try.func3, Try.ntmps3
  have hb1 := below_alloc' w (.cells #[.int .i64 aP_x0, .slice vP_1_A aP_x1.length vP_1_c] 24)
  have y1 := size_alloc' w (.cells #[.int .i64 aP_x0, .slice vP_1_A aP_x1.length vP_1_c] 24)
  replace A := A.trans (hb1.mono A.size)
  have z1 := hb1.size
  have b1 := Bk.new w #[.int .i64 aP_x0, .slice vP_1_A aP_x1.length vP_1_c] 24
  clear hb1
  have b1s := b1.1
  have b1c := b1.2
  go_wp2_with fail
  clear b1s b1c
  refine (u_sz_Poset aP_x0 _ aP_x1 _ _ (hP_1.below A) (by omega)).mono ?_
  rintro e w2 ⟨rfl, hb⟩
  replace b1 := b1.below hb
  replace A := A.trans (hb.mono A.size)
  have z2 := hb.size
  clear hb
  rw [szL_pos (by omega)]
  have b1s := b1.1
  have b1c := b1.2
  go_wp2_with fail
  clear b1s b1c
  refine (u_to_Poset aP_x0 _ aP_x1 _ (hP_1.below A) (by omega)).mono ?_
  rintro e w3 ⟨tP_v1, rfl, o3_1, hb⟩
  replace b1 := b1.below hb
  replace A := A.trans (hb.mono A.size)
  have z3 := hb.size
  clear hb
  obtain ⟨tP_v1_A, tP_v1_c, rfl⟩ := o3_1.opn
  have b1s := b1.1
  have b1c := b1.2
  go_wp2_with fail
  clear b1s b1c
  refine (u_to_SI _ aValues_x0 _ (hValues_0.below A) (by omega)).mono ?_
  rintro e w4 ⟨tValues_v0, rfl, o4_0, hb⟩
  replace o3_1 := o3_1.below hb
  replace b1 := b1.below hb
  replace A := A.trans (hb.mono A.size)
  have z4 := hb.size
  clear hb
  have b1s := b1.1
  have b1c := b1.2
  go_wp2_with fail
  clear b1s b1c
  refine (HS.out _ _ _ o3_1.sl o4_0.sl).mono ?_
  rintro e w5 ⟨w0_v1, w1_v0, w2_v0, rfl, r5_w0_1, r5_w1_0, r5_w2_0, hb⟩
  replace o3_1 := o3_1.below hb
  replace o4_0 := o4_0.below hb
  replace b1 := b1.below hb
  replace A := A.trans (hb.mono A.size)
  have z5 := hb.size
  clear hb
  obtain ⟨w0_v1_A, w0_v1_c, rfl⟩ := r5_w0_1.opn
  clear o3_1
  clear o4_0
  have hb6 := below_alloc' w5 (.cells #[.int .i64 r0_x0, .slice w0_v1_A r0_x1.length w0_v1_c] 26)
  have y6 := size_alloc' w5 (.cells #[.int .i64 r0_x0, .slice w0_v1_A r0_x1.length w0_v1_c] 26)
  replace r5_w0_1 := r5_w0_1.below hb6
  replace r5_w1_0 := r5_w1_0.below hb6
  replace r5_w2_0 := r5_w2_0.below hb6
  replace b1 := b1.below hb6
  replace A := A.trans (hb6.mono A.size)
  have z6 := hb6.size
  have b6 := Bk.new w5 #[.int .i64 r0_x0, .slice w0_v1_A r0_x1.length w0_v1_c] 26
  clear hb6
  have b1s := b1.1
  have b1c := b1.2
  have b6s := b6.1
  have b6c := b6.2
  go_wp2_with fail
  clear b1s b1c b6s b6c
  refine (u_to_Poset aP_x0 _ aP_x1 _ (hP_1.below A) (by omega)).mono ?_
  rintro e w7 ⟨xP_v1, rfl, o7_1, hb⟩
  replace r5_w0_1 := r5_w0_1.below hb
  replace r5_w1_0 := r5_w1_0.below hb
  replace r5_w2_0 := r5_w2_0.below hb
  replace b1 := b1.below hb
  replace b6 := b6.below hb
  replace A := A.trans (hb.mono A.size)
  have z7 := hb.size
  clear hb
  obtain ⟨xP_v1_A, xP_v1_c, rfl⟩ := o7_1.opn
  have hb8 := below_alloc' w7 (.cells #[.int .i64 aP_x0, .slice xP_v1_A aP_x1.length xP_v1_c] 26)
  have y8 := size_alloc' w7 (.cells #[.int .i64 aP_x0, .slice xP_v1_A aP_x1.length xP_v1_c] 26)
  replace r5_w0_1 := r5_w0_1.below hb8
  replace r5_w1_0 := r5_w1_0.below hb8
  replace r5_w2_0 := r5_w2_0.below hb8
  replace o7_1 := o7_1.below hb8
  replace b1 := b1.below hb8
  replace b6 := b6.below hb8
  replace A := A.trans (hb8.mono A.size)
  have z8 := hb8.size
  have b8 := Bk.new w7 #[.int .i64 aP_x0, .slice xP_v1_A aP_x1.length xP_v1_c] 26
  clear hb8
  have b1s := b1.1
  have b1c := b1.2
  have b6s := b6.1
  have b6c := b6.2
  have b8s := b8.1
  have b8c := b8.2
  go_wp2_with fail
  clear b1s b1c b6s b6c b8s b8c
  refine (u_to_SI _ aValues_x0 _ (hValues_0.below A) (by omega)).mono ?_
  rintro e w9 ⟨xValues_v0, rfl, o9_0, hb⟩
  replace r5_w0_1 := r5_w0_1.below hb
  replace r5_w1_0 := r5_w1_0.below hb
  replace r5_w2_0 := r5_w2_0.below hb
  replace o7_1 := o7_1.below hb
  replace b1 := b1.below hb
  replace b6 := b6.below hb
  replace b8 := b8.below hb
  replace A := A.trans (hb.mono A.size)
  have z9 := hb.size
  clear hb
  have b1s := b1.1
  have b1c := b1.2
  have b6s := b6.1
  have b6c := b6.2
  have b8s := b8.1
  have b8c := b8.2
  go_wp2_with fail
  clear b1s b1c b6s b6c b8s b8c
  refine (HI.out _ _ _ o7_1.sl o9_0.sl).mono ?_
  rintro e w10 ⟨g0_v1, g1_v0, g2_v0, H10_c0, H10_c1, rfl, hH10_c0, hH10_c1, hH10_c2, r10_g0_1, r10_g1_0, r10_g2_0, hb⟩
  replace r5_w0_1 := r5_w0_1.below hb
  replace r5_w1_0 := r5_w1_0.below hb
  replace r5_w2_0 := r5_w2_0.below hb
  replace o7_1 := o7_1.below hb
  replace o9_0 := o9_0.below hb
  replace b1 := b1.below hb
  replace b6 := b6.below hb
  replace b8 := b8.below hb
  replace A := A.trans (hb.mono A.size)
  have z10 := hb.size
  clear hb
  obtain ⟨g0_v1_A, g0_v1_c, rfl⟩ := r10_g0_1.opn
  have hb11 := below_alloc' w10 (.cells #[.int .i64 r0_x0, .slice g0_v1_A r0_x1.length g0_v1_c] 26)
  have y11 := size_alloc' w10 (.cells #[.int .i64 r0_x0, .slice g0_v1_A r0_x1.length g0_v1_c] 26)
  replace r5_w0_1 := r5_w0_1.below hb11
  replace r5_w1_0 := r5_w1_0.below hb11
  replace r5_w2_0 := r5_w2_0.below hb11
  replace o7_1 := o7_1.below hb11
  replace o9_0 := o9_0.below hb11
  replace r10_g0_1 := r10_g0_1.below hb11
  replace r10_g1_0 := r10_g1_0.below hb11
  replace r10_g2_0 := r10_g2_0.below hb11
  replace b1 := b1.below hb11
  replace b6 := b6.below hb11
  replace b8 := b8.below hb11
  replace A := A.trans (hb11.mono A.size)
  have z11 := hb11.size
  have b11 := Bk.new w10 #[.int .i64 r0_x0, .slice g0_v1_A r0_x1.length g0_v1_c] 26
  clear hb11
  have b1s := b1.1
  have b1c := b1.2
  have b6s := b6.1
  have b6c := b6.2
  have b8s := b8.1
  have b8c := b8.2
  have b11s := b11.1
  have b11c := b11.2
  go_wp2_with fail
  clear b1s b1c b6s b6c b8s b8c b11s b11c
  refine (u_eq_Poset r0_x0 _ _ r0_x1 _ r10_g0_1.sl r5_w0_1.sl (by omega)).mono ?_
  rintro e w12 ⟨rfl, hb⟩
  replace r5_w0_1 := r5_w0_1.below hb
  replace r5_w1_0 := r5_w1_0.below hb
  replace r5_w2_0 := r5_w2_0.below hb
  replace o7_1 := o7_1.below hb
  replace o9_0 := o9_0.below hb
  replace r10_g0_1 := r10_g0_1.below hb
  replace r10_g1_0 := r10_g1_0.below hb
  replace r10_g2_0 := r10_g2_0.below hb
  replace b1 := b1.below hb
  replace b6 := b6.below hb
  replace b8 := b8.below hb
  replace b11 := b11.below hb
  replace A := A.trans (hb.mono A.size)
  have z12 := hb.size
  clear hb
  have b1s := b1.1
  have b1c := b1.2
  have b6s := b6.1
  have b6c := b6.2
  have b8s := b8.1
  have b8c := b8.2
  have b11s := b11.1
  have b11c := b11.2
  go_wp2_with fail
  clear b1s b1c b6s b6c b8s b8c b11s b11c
  refine (u_eq_SI _ _ r1_x0 _ r10_g1_0.sl r5_w1_0.sl (by omega)).mono ?_
  rintro e w13 ⟨rfl, hb⟩
  replace r5_w0_1 := r5_w0_1.below hb
  replace r5_w1_0 := r5_w1_0.below hb
  replace r5_w2_0 := r5_w2_0.below hb
  replace o7_1 := o7_1.below hb
  replace o9_0 := o9_0.below hb
  replace r10_g0_1 := r10_g0_1.below hb
  replace r10_g1_0 := r10_g1_0.below hb
  replace r10_g2_0 := r10_g2_0.below hb
  replace b1 := b1.below hb
  replace b6 := b6.below hb
  replace b8 := b8.below hb
  replace b11 := b11.below hb
  replace A := A.trans (hb.mono A.size)
  have z13 := hb.size
  clear hb
  have b1s := b1.1
  have b1c := b1.2
  have b6s := b6.1
  have b6c := b6.2
  have b8s := b8.1
  have b8c := b8.2
  have b11s := b11.1
  have b11c := b11.2
  go_wp2_with fail
  clear b1s b1c b6s b6c b8s b8c b11s b11c
  refine (u_eq_SI _ _ r2_x0 _ r10_g2_0.sl r5_w2_0.sl (by omega)).mono ?_
  rintro e w14 ⟨rfl, hb⟩
  replace r5_w0_1 := r5_w0_1.below hb
  replace r5_w1_0 := r5_w1_0.below hb
  replace r5_w2_0 := r5_w2_0.below hb
  replace o7_1 := o7_1.below hb
  replace o9_0 := o9_0.below hb
  replace r10_g0_1 := r10_g0_1.below hb
  replace r10_g1_0 := r10_g1_0.below hb
  replace r10_g2_0 := r10_g2_0.below hb
  replace b1 := b1.below hb
  replace b6 := b6.below hb
  replace b8 := b8.below hb
  replace b11 := b11.below hb
  replace A := A.trans (hb.mono A.size)
  have z14 := hb.size
  clear hb
  have b1s := b1.1
  have b1c := b1.2
  have b6s := b6.1
  have b6c := b6.2
  have b8s := b8.1
  have b8c := b8.2
  have b11s := b11.1
  have b11c := b11.2
  go_wp2_with fail
  clear b1s b1c b6s b6c b8s b8c b11s b11c
  have hq16_1 := hP_1.below A
  have c0 : w14.cell? ⟨w7.heap.size, 0, none⟩ = some (.int .i64 aP_x0) := b8.2 0
  have c1 : w14.cell? ⟨w7.heap.size, 1, none⟩ = some (.slice xP_v1_A aP_x1.length xP_v1_c) := b8.2 1
  have d0 : w14.cell? ⟨w.heap.size, 0, none⟩ = some (.int .i64 aP_x0) := b1.2 0
  have d1 : w14.cell? ⟨w.heap.size, 1, none⟩ = some (.slice vP_1_A aP_x1.length vP_1_c) := b1.2 1
  go_region_held3 (fun w' => w'.cell? ⟨w7.heap.size, 0, none⟩ = some (.int .i64 aP_x0) ∧ w'.cell? ⟨w7.heap.size, 1, none⟩ = some (.slice xP_v1_A aP_x1.length xP_v1_c) ∧ w'.cell? ⟨w.heap.size, 0, none⟩ = some (.int .i64 aP_x0) ∧ w'.cell? ⟨w.heap.size, 1, none⟩ = some (.slice vP_1_A aP_x1.length vP_1_c)) (first | exact ⟨c0'', c1'', d0'', d1''⟩ | exact ⟨c0', c1', d0', d1'⟩ | exact ⟨c0, c1, d0, d1⟩ | (simp [*]; done)) (first | (go_at_call 8; refine (u_to_Poset aP_x0 _ aP_x1 _ (hq16_1.below (below_drewN (Below.refl _ _) 1)) (by omega)).mono ?_; rintro e w15 ⟨y16_1, rfl, oy16_1, hbP⟩; obtain ⟨y16_1_A, y16_1_c, rfl⟩ := oy16_1.opn; have hbP1 : Below w14.heap.size w14 w15 := (below_drewN (Below.refl _ _) 1).trans hbP; have c0' := (hbP1.cell (p := ⟨w7.heap.size, 0, none⟩) b8.1).trans c0; have c1' := (hbP1.cell (p := ⟨w7.heap.size, 1, none⟩) b8.1).trans c1; have d0' := (hbP1.cell (p := ⟨w.heap.size, 0, none⟩) b1.1).trans d0; have d1' := (hbP1.cell (p := ⟨w.heap.size, 1, none⟩) b1.1).trans d1) | (go_at_call 11; refine (u_eq_Poset aP_x0 _ _ aP_x1 _ (o7_1.below hbP1).sl oy16_1.sl (by omega)).mono ?_; rintro e w16 ⟨rfl, hbQ⟩; have c0'' := (hbQ.cell (p := ⟨w7.heap.size, 0, none⟩) (b8.below hbP1).1).trans c0'; have c1'' := (hbQ.cell (p := ⟨w7.heap.size, 1, none⟩) (b8.below hbP1).1).trans c1'; have d0'' := (hbQ.cell (p := ⟨w.heap.size, 0, none⟩) (b1.below hbP1).1).trans d0'; have d1'' := (hbQ.cell (p := ⟨w.heap.size, 1, none⟩) (b1.below hbP1).1).trans d1'))
  have hb := bthen hbP1 hbQ
  clear c0'' c0' c0 c1'' c1' c1 d0'' d0' d0 d1'' d1' d1
  clear hbP hbQ hbP1 oy16_1
  clear hq16_1
  replace r5_w0_1 := r5_w0_1.below hb
  replace r5_w1_0 := r5_w1_0.below hb
  replace r5_w2_0 := r5_w2_0.below hb
  replace o7_1 := o7_1.below hb
  replace o9_0 := o9_0.below hb
  replace r10_g0_1 := r10_g0_1.below hb
  replace r10_g1_0 := r10_g1_0.below hb
  replace r10_g2_0 := r10_g2_0.below hb
  replace b1 := b1.below hb
  replace b6 := b6.below hb
  replace b8 := b8.below hb
  replace b11 := b11.below hb
  replace A := A.trans (hb.mono A.size)
  have z16 := hb.size
  clear hb
  have b1s := b1.1
  have b1c := b1.2
  have b6s := b6.1
  have b6c := b6.2
  have b8s := b8.1
  have b8c := b8.2
  have b11s := b11.1
  have b11c := b11.2
  go_wp2_with fail
  clear b1s b1c b6s b6c b8s b8c b11s b11c
  refine (u_to_SI _ aValues_x0 _ (hValues_0.below A) (by omega)).mono ?_
  rintro e w17 ⟨yValues_v0, rfl, o17_0, hb⟩
  replace r5_w0_1 := r5_w0_1.below hb
  replace r5_w1_0 := r5_w1_0.below hb
  replace r5_w2_0 := r5_w2_0.below hb
  replace o7_1 := o7_1.below hb
  replace o9_0 := o9_0.below hb
  replace r10_g0_1 := r10_g0_1.below hb
  replace r10_g1_0 := r10_g1_0.below hb
  replace r10_g2_0 := r10_g2_0.below hb
  replace b1 := b1.below hb
  replace b6 := b6.below hb
  replace b8 := b8.below hb
  replace b11 := b11.below hb
  replace A := A.trans (hb.mono A.size)
  have z17 := hb.size
  clear hb
  have b1s := b1.1
  have b1c := b1.2
  have b6s := b6.1
  have b6c := b6.2
  have b8s := b8.1
  have b8c := b8.2
  have b11s := b11.1
  have b11c := b11.2
  go_wp2_with fail
  clear b1s b1c b6s b6c b8s b8c b11s b11c
  refine (u_eq_SI _ _ aValues_x0 _ o9_0.sl o17_0.sl (by omega)).mono ?_
  rintro e w18 ⟨rfl, hb⟩
  replace r5_w0_1 := r5_w0_1.below hb
  replace r5_w1_0 := r5_w1_0.below hb
  replace r5_w2_0 := r5_w2_0.below hb
  replace o7_1 := o7_1.below hb
  replace o9_0 := o9_0.below hb
  replace r10_g0_1 := r10_g0_1.below hb
  replace r10_g1_0 := r10_g1_0.below hb
  replace r10_g2_0 := r10_g2_0.below hb
  replace o17_0 := o17_0.below hb
  replace b1 := b1.below hb
  replace b6 := b6.below hb
  replace b8 := b8.below hb
  replace b11 := b11.below hb
  replace A := A.trans (hb.mono A.size)
  have z18 := hb.size
  clear hb
  clear o17_0
  have b1s := b1.1
  have b1c := b1.2
  have b6s := b6.1
  have b6c := b6.2
  have b8s := b8.1
  have b8c := b8.2
  have b11s := b11.1
  have b11c := b11.2
  go_wp2_with fail
  clear b1s b1c b6s b6c b8s b8c b11s b11c
  refine (u_mark_Poset aP_x0 _ aP_x1 _ _ _ _ o7_1 (by omega) (by omega)).mono ?_
  rintro e w19 ⟨rfl, no7_1, hk⟩
  replace r5_w0_1 := r5_w0_1.keep hk (by omega)
  replace r5_w1_0 := r5_w1_0.keep hk (by omega)
  replace r5_w2_0 := r5_w2_0.keep hk (by omega)
  replace o9_0 := o9_0.keep hk (by omega)
  replace r10_g0_1 := r10_g0_1.keep hk (by omega)
  replace r10_g1_0 := r10_g1_0.keep hk (by omega)
  replace r10_g2_0 := r10_g2_0.keep hk (by omega)
  clear o7_1; have o7_1 := no7_1; clear no7_1
  replace b1 := b1.keep hk (by omega)
  replace b6 := b6.keep hk (by omega)
  replace b8 := b8.keep hk (by omega)
  replace b11 := b11.keep hk (by omega)
  replace A := below_keep A hk (by omega) A.size
  have z19 := hk.size
  clear hk
  have b1s := b1.1
  have b1c := b1.2
  have b6s := b6.1
  have b6c := b6.2
  have b8s := b8.1
  have b8c := b8.2
  have b11s := b11.1
  have b11c := b11.2
  go_wp2_with fail
  clear b1s b1c b6s b6c b8s b8c b11s b11c
  refine (u_mark_SI _ aValues_x0 _ _ _ _ o9_0 (by omega) (by omega)).mono ?_
  rintro e w20 ⟨rfl, no9_0, hk⟩
  replace r5_w0_1 := r5_w0_1.keep hk (by omega)
  replace r5_w1_0 := r5_w1_0.keep hk (by omega)
  replace r5_w2_0 := r5_w2_0.keep hk (by omega)
  replace o7_1 := o7_1.keep hk (by omega)
  replace r10_g0_1 := r10_g0_1.keep hk (by omega)
  replace r10_g1_0 := r10_g1_0.keep hk (by omega)
  replace r10_g2_0 := r10_g2_0.keep hk (by omega)
  clear o9_0; have o9_0 := no9_0; clear no9_0
  replace b1 := b1.keep hk (by omega)
  replace b6 := b6.keep hk (by omega)
  replace b8 := b8.keep hk (by omega)
  replace b11 := b11.keep hk (by omega)
  replace A := below_keep A hk (by omega) A.size
  have z20 := hk.size
  clear hk
  have b1s := b1.1
  have b1c := b1.2
  have b6s := b6.1
  have b6c := b6.2
  have b8s := b8.1
  have b8c := b8.2
  have b11s := b11.1
  have b11c := b11.2
  go_wp2_with fail
  clear b1s b1c b6s b6c b8s b8c b11s b11c
  refine (u_eq_Poset r0_x0 _ _ r0_x1 _ r10_g0_1.sl r5_w0_1.sl (by omega)).mono ?_
  rintro e w21 ⟨rfl, hb⟩
  replace r5_w0_1 := r5_w0_1.below hb
  replace r5_w1_0 := r5_w1_0.below hb
  replace r5_w2_0 := r5_w2_0.below hb
  replace o7_1 := o7_1.below hb
  replace o9_0 := o9_0.below hb
  replace r10_g0_1 := r10_g0_1.below hb
  replace r10_g1_0 := r10_g1_0.below hb
  replace r10_g2_0 := r10_g2_0.below hb
  replace b1 := b1.below hb
  replace b6 := b6.below hb
  replace b8 := b8.below hb
  replace b11 := b11.below hb
  replace A := A.trans (hb.mono A.size)
  have z21 := hb.size
  clear hb
  have b1s := b1.1
  have b1c := b1.2
  have b6s := b6.1
  have b6c := b6.2
  have b8s := b8.1
  have b8c := b8.2
  have b11s := b11.1
  have b11c := b11.2
  go_wp2_with fail
  clear b1s b1c b6s b6c b8s b8c b11s b11c
  refine (u_eq_SI _ _ r1_x0 _ r10_g1_0.sl r5_w1_0.sl (by omega)).mono ?_
  rintro e w22 ⟨rfl, hb⟩
  replace r5_w0_1 := r5_w0_1.below hb
  replace r5_w1_0 := r5_w1_0.below hb
  replace r5_w2_0 := r5_w2_0.below hb
  replace o7_1 := o7_1.below hb
  replace o9_0 := o9_0.below hb
  replace r10_g0_1 := r10_g0_1.below hb
  replace r10_g1_0 := r10_g1_0.below hb
  replace r10_g2_0 := r10_g2_0.below hb
  replace b1 := b1.below hb
  replace b6 := b6.below hb
  replace b8 := b8.below hb
  replace b11 := b11.below hb
  replace A := A.trans (hb.mono A.size)
  have z22 := hb.size
  clear hb
  have b1s := b1.1
  have b1c := b1.2
  have b6s := b6.1
  have b6c := b6.2
  have b8s := b8.1
  have b8c := b8.2
  have b11s := b11.1
  have b11c := b11.2
  go_wp2_with fail
  clear b1s b1c b6s b6c b8s b8c b11s b11c
  refine (u_eq_SI _ _ r2_x0 _ r10_g2_0.sl r5_w2_0.sl (by omega)).mono ?_
  rintro e w23 ⟨rfl, hb⟩
  replace r5_w0_1 := r5_w0_1.below hb
  replace r5_w1_0 := r5_w1_0.below hb
  replace r5_w2_0 := r5_w2_0.below hb
  replace o7_1 := o7_1.below hb
  replace o9_0 := o9_0.below hb
  replace r10_g0_1 := r10_g0_1.below hb
  replace r10_g1_0 := r10_g1_0.below hb
  replace r10_g2_0 := r10_g2_0.below hb
  replace b1 := b1.below hb
  replace b6 := b6.below hb
  replace b8 := b8.below hb
  replace b11 := b11.below hb
  replace A := A.trans (hb.mono A.size)
  have z23 := hb.size
  clear hb
  clear o7_1
  clear o9_0
  have b1s := b1.1
  have b1c := b1.2
  have b6s := b6.1
  have b6c := b6.2
  have b8s := b8.1
  have b8c := b8.2
  have b11s := b11.1
  have b11c := b11.2
  go_wp2_with fail
  clear b1s b1c b6s b6c b8s b8c b11s b11c
  refine (u_mark_Poset r0_x0 _ r0_x1 _ _ _ _ r10_g0_1 (by omega) (by omega)).mono ?_
  rintro e w24 ⟨rfl, nr10_g0_1, hk⟩
  replace r5_w0_1 := r5_w0_1.keep hk (by omega)
  replace r5_w1_0 := r5_w1_0.keep hk (by omega)
  replace r5_w2_0 := r5_w2_0.keep hk (by omega)
  replace r10_g1_0 := r10_g1_0.keep hk (by omega)
  replace r10_g2_0 := r10_g2_0.keep hk (by omega)
  clear r10_g0_1; have r10_g0_1 := nr10_g0_1; clear nr10_g0_1
  replace b1 := b1.keep hk (by omega)
  replace b6 := b6.keep hk (by omega)
  replace b8 := b8.keep hk (by omega)
  replace b11 := b11.keep hk (by omega)
  replace A := below_keep A hk (by omega) A.size
  have z24 := hk.size
  clear hk
  have b1s := b1.1
  have b1c := b1.2
  have b6s := b6.1
  have b6c := b6.2
  have b8s := b8.1
  have b8c := b8.2
  have b11s := b11.1
  have b11c := b11.2
  go_wp2_with fail
  clear b1s b1c b6s b6c b8s b8c b11s b11c
  refine (u_mark_SI _ r1_x0 _ _ _ _ r10_g1_0 (by omega) (by omega)).mono ?_
  rintro e w25 ⟨rfl, nr10_g1_0, hk⟩
  replace r5_w0_1 := r5_w0_1.keep hk (by omega)
  replace r5_w1_0 := r5_w1_0.keep hk (by omega)
  replace r5_w2_0 := r5_w2_0.keep hk (by omega)
  replace r10_g0_1 := r10_g0_1.keep hk (by omega)
  replace r10_g2_0 := r10_g2_0.keep hk (by omega)
  clear r10_g1_0; have r10_g1_0 := nr10_g1_0; clear nr10_g1_0
  replace b1 := b1.keep hk (by omega)
  replace b6 := b6.keep hk (by omega)
  replace b8 := b8.keep hk (by omega)
  replace b11 := b11.keep hk (by omega)
  replace A := below_keep A hk (by omega) A.size
  have z25 := hk.size
  clear hk
  have b1s := b1.1
  have b1c := b1.2
  have b6s := b6.1
  have b6c := b6.2
  have b8s := b8.1
  have b8c := b8.2
  have b11s := b11.1
  have b11c := b11.2
  go_wp2_with fail
  clear b1s b1c b6s b6c b8s b8c b11s b11c
  refine (u_mark_SI _ r2_x0 _ _ _ _ r10_g2_0 (by omega) (by omega)).mono ?_
  rintro e w26 ⟨rfl, nr10_g2_0, hk⟩
  replace r5_w0_1 := r5_w0_1.keep hk (by omega)
  replace r5_w1_0 := r5_w1_0.keep hk (by omega)
  replace r5_w2_0 := r5_w2_0.keep hk (by omega)
  replace r10_g0_1 := r10_g0_1.keep hk (by omega)
  replace r10_g1_0 := r10_g1_0.keep hk (by omega)
  clear r10_g2_0; have r10_g2_0 := nr10_g2_0; clear nr10_g2_0
  replace b1 := b1.keep hk (by omega)
  replace b6 := b6.keep hk (by omega)
  replace b8 := b8.keep hk (by omega)
  replace b11 := b11.keep hk (by omega)
  replace A := below_keep A hk (by omega) A.size
  have z26 := hk.size
  clear hk
  have b1s := b1.1
  have b1c := b1.2
  have b6s := b6.1
  have b6c := b6.2
  have b8s := b8.1
  have b8c := b8.2
  have b11s := b11.1
  have b11c := b11.2
  go_wp2_with fail
  clear b1s b1c b6s b6c b8s b8c b11s b11c
  refine (u_held_Poset r0_x0 _ r0_x1.length _ _ r10_g0_1.sl (by omega) (by omega)).mono ?_
  rintro e w27 ⟨rfl, hb⟩
  replace r5_w0_1 := r5_w0_1.below hb
  replace r5_w1_0 := r5_w1_0.below hb
  replace r5_w2_0 := r5_w2_0.below hb
  replace r10_g0_1 := r10_g0_1.below hb
  replace r10_g1_0 := r10_g1_0.below hb
  replace r10_g2_0 := r10_g2_0.below hb
  replace b1 := b1.below hb
  replace b6 := b6.below hb
  replace b8 := b8.below hb
  replace b11 := b11.below hb
  replace A := A.trans (hb.mono A.size)
  have z27 := hb.size
  clear hb
  have b1s := b1.1
  have b1c := b1.2
  have b6s := b6.1
  have b6c := b6.2
  have b8s := b8.1
  have b8c := b8.2
  have b11s := b11.1
  have b11c := b11.2
  go_wp2_with fail
  clear b1s b1c b6s b6c b8s b8c b11s b11c
  refine (u_held_SI _ r1_x0.length _ _ r10_g1_0.sl (by omega) (by omega)).mono ?_
  rintro e w28 ⟨rfl, hb⟩
  replace r5_w0_1 := r5_w0_1.below hb
  replace r5_w1_0 := r5_w1_0.below hb
  replace r5_w2_0 := r5_w2_0.below hb
  replace r10_g0_1 := r10_g0_1.below hb
  replace r10_g1_0 := r10_g1_0.below hb
  replace r10_g2_0 := r10_g2_0.below hb
  replace b1 := b1.below hb
  replace b6 := b6.below hb
  replace b8 := b8.below hb
  replace b11 := b11.below hb
  replace A := A.trans (hb.mono A.size)
  have z28 := hb.size
  clear hb
  have b1s := b1.1
  have b1c := b1.2
  have b6s := b6.1
  have b6c := b6.2
  have b8s := b8.1
  have b8c := b8.2
  have b11s := b11.1
  have b11c := b11.2
  go_wp2_with fail
  clear b1s b1c b6s b6c b8s b8c b11s b11c
  refine (u_held_SI _ r2_x0.length _ _ r10_g2_0.sl (by omega) (by omega)).mono ?_
  rintro e w29 ⟨rfl, hb⟩
  replace r5_w0_1 := r5_w0_1.below hb
  replace r5_w1_0 := r5_w1_0.below hb
  replace r5_w2_0 := r5_w2_0.below hb
  replace r10_g0_1 := r10_g0_1.below hb
  replace r10_g1_0 := r10_g1_0.below hb
  replace r10_g2_0 := r10_g2_0.below hb
  replace b1 := b1.below hb
  replace b6 := b6.below hb
  replace b8 := b8.below hb
  replace b11 := b11.below hb
  replace A := A.trans (hb.mono A.size)
  have z29 := hb.size
  clear hb
  have b1s := b1.1
  have b1c := b1.2
  have b6s := b6.1
  have b6c := b6.2
  have b8s := b8.1
  have b8c := b8.2
  have b11s := b11.1
  have b11c := b11.2
  go_wp2_with fail
  clear b1s b1c b6s b6c b8s b8c b11s b11c
  refine (u_to_Poset aP_x0 _ aP_x1 _ (hP_1.below A) (by omega)).mono ?_
  rintro e w30 ⟨sP_v1, rfl, o30_1, hb⟩
  replace r5_w0_1 := r5_w0_1.below hb
  replace r5_w1_0 := r5_w1_0.below hb
  replace r5_w2_0 := r5_w2_0.below hb
  replace r10_g0_1 := r10_g0_1.below hb
  replace r10_g1_0 := r10_g1_0.below hb
  replace r10_g2_0 := r10_g2_0.below hb
  replace b1 := b1.below hb
  replace b6 := b6.below hb
  replace b8 := b8.below hb
  replace b11 := b11.below hb
  replace A := A.trans (hb.mono A.size)
  have z30 := hb.size
  clear hb
  obtain ⟨sP_v1_A, sP_v1_c, rfl⟩ := o30_1.opn
  have b1s := b1.1
  have b1c := b1.2
  have b6s := b6.1
  have b6c := b6.2
  have b8s := b8.1
  have b8c := b8.2
  have b11s := b11.1
  have b11c := b11.2
  go_wp2_with fail
  clear b1s b1c b6s b6c b8s b8c b11s b11c
  refine (u_to_SI _ aValues_x0 _ (hValues_0.below A) (by omega)).mono ?_
  rintro e w31 ⟨sValues_v0, rfl, o31_0, hb⟩
  replace r5_w0_1 := r5_w0_1.below hb
  replace r5_w1_0 := r5_w1_0.below hb
  replace r5_w2_0 := r5_w2_0.below hb
  replace r10_g0_1 := r10_g0_1.below hb
  replace r10_g1_0 := r10_g1_0.below hb
  replace r10_g2_0 := r10_g2_0.below hb
  replace o30_1 := o30_1.below hb
  replace b1 := b1.below hb
  replace b6 := b6.below hb
  replace b8 := b8.below hb
  replace b11 := b11.below hb
  replace A := A.trans (hb.mono A.size)
  have z31 := hb.size
  clear hb
  have b1s := b1.1
  have b1c := b1.2
  have b6s := b6.1
  have b6c := b6.2
  have b8s := b8.1
  have b8c := b8.2
  have b11s := b11.1
  have b11c := b11.2
  go_wp2_with fail
  clear b1s b1c b6s b6c b8s b8c b11s b11c
  refine (HI.out _ _ _ o30_1.sl o31_0.sl).mono ?_
  rintro e w32 ⟨h0_v1, h1_v0, h2_v0, H32_c0, H32_c1, rfl, hH32_c0, hH32_c1, hH32_c2, r32_h0_1, r32_h1_0, r32_h2_0, hb⟩
  replace r5_w0_1 := r5_w0_1.below hb
  replace r5_w1_0 := r5_w1_0.below hb
  replace r5_w2_0 := r5_w2_0.below hb
  replace r10_g0_1 := r10_g0_1.below hb
  replace r10_g1_0 := r10_g1_0.below hb
  replace r10_g2_0 := r10_g2_0.below hb
  replace o30_1 := o30_1.below hb
  replace o31_0 := o31_0.below hb
  replace b1 := b1.below hb
  replace b6 := b6.below hb
  replace b8 := b8.below hb
  replace b11 := b11.below hb
  replace A := A.trans (hb.mono A.size)
  have z32 := hb.size
  clear hb
  obtain ⟨h0_v1_A, h0_v1_c, rfl⟩ := r32_h0_1.opn
  clear o30_1
  clear o31_0
  have hb33 := below_alloc' w32 (.cells #[.int .i64 r0_x0, .slice h0_v1_A r0_x1.length h0_v1_c] 26)
  have y33 := size_alloc' w32 (.cells #[.int .i64 r0_x0, .slice h0_v1_A r0_x1.length h0_v1_c] 26)
  replace r5_w0_1 := r5_w0_1.below hb33
  replace r5_w1_0 := r5_w1_0.below hb33
  replace r5_w2_0 := r5_w2_0.below hb33
  replace r10_g0_1 := r10_g0_1.below hb33
  replace r10_g1_0 := r10_g1_0.below hb33
  replace r10_g2_0 := r10_g2_0.below hb33
  replace r32_h0_1 := r32_h0_1.below hb33
  replace r32_h1_0 := r32_h1_0.below hb33
  replace r32_h2_0 := r32_h2_0.below hb33
  replace b1 := b1.below hb33
  replace b6 := b6.below hb33
  replace b8 := b8.below hb33
  replace b11 := b11.below hb33
  replace A := A.trans (hb33.mono A.size)
  have z33 := hb33.size
  have b33 := Bk.new w32 #[.int .i64 r0_x0, .slice h0_v1_A r0_x1.length h0_v1_c] 26
  clear hb33
  have b1s := b1.1
  have b1c := b1.2
  have b6s := b6.1
  have b6c := b6.2
  have b8s := b8.1
  have b8c := b8.2
  have b11s := b11.1
  have b11c := b11.2
  have b33s := b33.1
  have b33c := b33.2
  go_wp2_with fail
  clear b1s b1c b6s b6c b8s b8c b11s b11c b33s b33c
  refine (u_eq_Poset r0_x0 _ _ r0_x1 _ r32_h0_1.sl r5_w0_1.sl (by omega)).mono ?_
  rintro e w34 ⟨rfl, hb⟩
  replace r5_w0_1 := r5_w0_1.below hb
  replace r5_w1_0 := r5_w1_0.below hb
  replace r5_w2_0 := r5_w2_0.below hb
  replace r10_g0_1 := r10_g0_1.below hb
  replace r10_g1_0 := r10_g1_0.below hb
  replace r10_g2_0 := r10_g2_0.below hb
  replace r32_h0_1 := r32_h0_1.below hb
  replace r32_h1_0 := r32_h1_0.below hb
  replace r32_h2_0 := r32_h2_0.below hb
  replace b1 := b1.below hb
  replace b6 := b6.below hb
  replace b8 := b8.below hb
  replace b11 := b11.below hb
  replace b33 := b33.below hb
  replace A := A.trans (hb.mono A.size)
  have z34 := hb.size
  clear hb
  have b1s := b1.1
  have b1c := b1.2
  have b6s := b6.1
  have b6c := b6.2
  have b8s := b8.1
  have b8c := b8.2
  have b11s := b11.1
  have b11c := b11.2
  have b33s := b33.1
  have b33c := b33.2
  go_wp2_with fail
  clear b1s b1c b6s b6c b8s b8c b11s b11c b33s b33c
  refine (u_eq_SI _ _ r1_x0 _ r32_h1_0.sl r5_w1_0.sl (by omega)).mono ?_
  rintro e w35 ⟨rfl, hb⟩
  replace r5_w0_1 := r5_w0_1.below hb
  replace r5_w1_0 := r5_w1_0.below hb
  replace r5_w2_0 := r5_w2_0.below hb
  replace r10_g0_1 := r10_g0_1.below hb
  replace r10_g1_0 := r10_g1_0.below hb
  replace r10_g2_0 := r10_g2_0.below hb
  replace r32_h0_1 := r32_h0_1.below hb
  replace r32_h1_0 := r32_h1_0.below hb
  replace r32_h2_0 := r32_h2_0.below hb
  replace b1 := b1.below hb
  replace b6 := b6.below hb
  replace b8 := b8.below hb
  replace b11 := b11.below hb
  replace b33 := b33.below hb
  replace A := A.trans (hb.mono A.size)
  have z35 := hb.size
  clear hb
  have b1s := b1.1
  have b1c := b1.2
  have b6s := b6.1
  have b6c := b6.2
  have b8s := b8.1
  have b8c := b8.2
  have b11s := b11.1
  have b11c := b11.2
  have b33s := b33.1
  have b33c := b33.2
  go_wp2_with fail
  clear b1s b1c b6s b6c b8s b8c b11s b11c b33s b33c
  refine (u_eq_SI _ _ r2_x0 _ r32_h2_0.sl r5_w2_0.sl (by omega)).mono ?_
  rintro e w36 ⟨rfl, hb⟩
  replace r5_w0_1 := r5_w0_1.below hb
  replace r5_w1_0 := r5_w1_0.below hb
  replace r5_w2_0 := r5_w2_0.below hb
  replace r10_g0_1 := r10_g0_1.below hb
  replace r10_g1_0 := r10_g1_0.below hb
  replace r10_g2_0 := r10_g2_0.below hb
  replace r32_h0_1 := r32_h0_1.below hb
  replace r32_h1_0 := r32_h1_0.below hb
  replace r32_h2_0 := r32_h2_0.below hb
  replace b1 := b1.below hb
  replace b6 := b6.below hb
  replace b8 := b8.below hb
  replace b11 := b11.below hb
  replace b33 := b33.below hb
  replace A := A.trans (hb.mono A.size)
  have z36 := hb.size
  clear hb
  have b1s := b1.1
  have b1c := b1.2
  have b6s := b6.1
  have b6c := b6.2
  have b8s := b8.1
  have b8c := b8.2
  have b11s := b11.1
  have b11c := b11.2
  have b33s := b33.1
  have b33c := b33.2
  go_wp2_with fail
  clear b1s b1c b6s b6c b8s b8c b11s b11c b33s b33c
  refine (u_held_Poset r0_x0 _ r0_x1.length _ _ r10_g0_1.sl (by omega) (by omega)).mono ?_
  rintro e w37 ⟨rfl, hb⟩
  replace r5_w0_1 := r5_w0_1.below hb
  replace r5_w1_0 := r5_w1_0.below hb
  replace r5_w2_0 := r5_w2_0.below hb
  replace r10_g0_1 := r10_g0_1.below hb
  replace r10_g1_0 := r10_g1_0.below hb
  replace r10_g2_0 := r10_g2_0.below hb
  replace r32_h0_1 := r32_h0_1.below hb
  replace r32_h1_0 := r32_h1_0.below hb
  replace r32_h2_0 := r32_h2_0.below hb
  replace b1 := b1.below hb
  replace b6 := b6.below hb
  replace b8 := b8.below hb
  replace b11 := b11.below hb
  replace b33 := b33.below hb
  replace A := A.trans (hb.mono A.size)
  have z37 := hb.size
  clear hb
  have b1s := b1.1
  have b1c := b1.2
  have b6s := b6.1
  have b6c := b6.2
  have b8s := b8.1
  have b8c := b8.2
  have b11s := b11.1
  have b11c := b11.2
  have b33s := b33.1
  have b33c := b33.2
  go_wp2_with fail
  clear b1s b1c b6s b6c b8s b8c b11s b11c b33s b33c
  refine (u_held_SI _ r1_x0.length _ _ r10_g1_0.sl (by omega) (by omega)).mono ?_
  rintro e w38 ⟨rfl, hb⟩
  replace r5_w0_1 := r5_w0_1.below hb
  replace r5_w1_0 := r5_w1_0.below hb
  replace r5_w2_0 := r5_w2_0.below hb
  replace r10_g0_1 := r10_g0_1.below hb
  replace r10_g1_0 := r10_g1_0.below hb
  replace r10_g2_0 := r10_g2_0.below hb
  replace r32_h0_1 := r32_h0_1.below hb
  replace r32_h1_0 := r32_h1_0.below hb
  replace r32_h2_0 := r32_h2_0.below hb
  replace b1 := b1.below hb
  replace b6 := b6.below hb
  replace b8 := b8.below hb
  replace b11 := b11.below hb
  replace b33 := b33.below hb
  replace A := A.trans (hb.mono A.size)
  have z38 := hb.size
  clear hb
  have b1s := b1.1
  have b1c := b1.2
  have b6s := b6.1
  have b6c := b6.2
  have b8s := b8.1
  have b8c := b8.2
  have b11s := b11.1
  have b11c := b11.2
  have b33s := b33.1
  have b33c := b33.2
  go_wp2_with fail
  clear b1s b1c b6s b6c b8s b8c b11s b11c b33s b33c
  refine (u_held_SI _ r2_x0.length _ _ r10_g2_0.sl (by omega) (by omega)).mono ?_
  rintro e w39 ⟨rfl, hb⟩
  replace r5_w0_1 := r5_w0_1.below hb
  replace r5_w1_0 := r5_w1_0.below hb
  replace r5_w2_0 := r5_w2_0.below hb
  replace r10_g0_1 := r10_g0_1.below hb
  replace r10_g1_0 := r10_g1_0.below hb
  replace r10_g2_0 := r10_g2_0.below hb
  replace r32_h0_1 := r32_h0_1.below hb
  replace r32_h1_0 := r32_h1_0.below hb
  replace r32_h2_0 := r32_h2_0.below hb
  replace b1 := b1.below hb
  replace b6 := b6.below hb
  replace b8 := b8.below hb
  replace b11 := b11.below hb
  replace b33 := b33.below hb
  replace A := A.trans (hb.mono A.size)
  have z39 := hb.size
  clear hb
  have b1s := b1.1
  have b1c := b1.2
  have b6s := b6.1
  have b6c := b6.2
  have b8s := b8.1
  have b8c := b8.2
  have b11s := b11.1
  have b11c := b11.2
  have b33s := b33.1
  have b33c := b33.2
  have BB := Lib.hid A; clear A
  clear r5_w0_1 r5_w1_0 r5_w2_0 r10_g0_1 r10_g1_0 r10_g2_0 r32_h0_1 r32_h1_0 r32_h2_0
  go_wp2
  go_ret
  exact ⟨rfl, BB.out⟩
theorem Ob.nil {α : Type} {K : Cod α} {e : TypeId} (B H : Nat) (w : World) : Ob K e B H w (.slice none 0 0) ([] : List α) := ⟨Ow.nil _ _, fun k hk => by cases hk⟩
theorem Ob.wide {α : Type} {K : Cod α} {e : TypeId} {B B' H H' : Nat} {w : World} {v : Value} {xs : List α} (h : Ob K e B H w v xs) (hB : B' ≤ B) (hH : H ≤ H') : Ob K e B' H' w v xs := ⟨h.1.mono hB, fun k hk => Nat.lt_of_lt_of_le (h.2 k hk) hH⟩
theorem final_MergeAlike (b : Int) (v : Value) (xs : List Int) (u : Value) (V : List Int) (w : World) (h : Sl cI w v xs) (h' : Sl cI w u V) :
    Calls Try.prog 3 #[.agg #[.int .i64 b, v], u] w fun e w' => e = .returned (.bool true) ∧ Below w.heap.size w w' := by
  have none_ : ∀ c : Int, (∀ W v u, xs.length ≤ 1073741824 → V.length ≤ 1073741824 → Sl cI W v xs → Sl cI W u V → Calls Try.prog 7 #[.agg #[.int .i64 b, v], u] W fun e w' => e = .returned (.tuple #[.agg #[.int .i64 0, .slice none 0 0], .slice none 0 0, .slice none 0 0, .int .i64 c]) ∧ Below W.heap.size W w') →
      (∀ W v u, xs.length ≤ 1073741824 → V.length ≤ 1073741824 → Sl cI W v xs → Sl cI W u V → Calls Try.prog 10 #[.agg #[.int .i64 b, v], u] W fun e w' => e = .returned (.tuple #[.agg #[.int .i64 0, .slice none 0 0], .slice none 0 0, .slice none 0 0, .int .i64 c]) ∧ Below W.heap.size W w') →
      Calls Try.prog 3 #[.agg #[.int .i64 b, v], u] w fun e w' => e = .returned (.bool true) ∧ Below w.heap.size w w' := by
    intro c hs hi
    exact walk_MergeAlike b v xs u V 0 [] [] [] c w h h' (by simp) (by simp) (by simp)
      (Lib.hid fun l1 l2 W v u hv hu => (hs W v u (by omega) (by omega) hv hu).mono fun e w' ⟨he, hb⟩ => ⟨_, _, _, he, Ob.nil _ _ _, Ob.nil _ _ _, Ob.nil _ _ _, hb⟩)
      (Lib.hid fun l1 l2 W v u hv hu => (hi W v u (by omega) (by omega) hv hu).mono fun e w' ⟨he, hb⟩ => ⟨_, _, _, W.heap.size, W.heap.size, he, Nat.le_refl _, Nat.le_refl _, hb.size, Ob.nil _ _ _, Ob.nil _ _ _, Ob.nil _ _ _, hb⟩)
  cases hc : vlOk b xs V
  · exact none_ 1 (fun W v u l1 l2 hv hu => spec_MergeAlike_bad b v u xs V W hv hu l1 hc) (fun W v u l1 l2 hv hu => impl_MergeAlike_bad b v u xs V W hv hu l1 l2 hc)
  · by_cases h6 : 6 < b
    · exact none_ 3 (fun W v u l1 l2 hv hu => spec_MergeAlike_big b v u xs V W hv hu l1 hc h6) (fun W v u l1 l2 hv hu => impl_MergeAlike_big b v u xs V W hv hu l1 l2 hc h6)
    · obtain ⟨ns, us, rfl, rfl, rfl, hm, hp, hi⟩ := vlOk_iff hc
      have h8 := hm.r.1
      have l1 : (li (QM ns us).1).length ≤ 1048576 := by rw [li_length, QM_len]; have := qn_le ns us h8; omega
      have l2 : (li (QM ns us).2).length ≤ 1048576 := by rw [li_length]; have : (QM ns us).2.length = us.length := qvl_length _ _; rw [this, hm.l]; omega
      have l3 : (li (qcl ns us)).length ≤ 1048576 := by rw [li_length, qcl_length]; omega
      exact walk_MergeAlike _ v _ u _ (qn ns us : Nat) (li (QM ns us).1) (li (QM ns us).2) (li (qcl ns us)) 0 w h h' l1 l2 l3
        (Lib.hid fun _ _ W v u hv hu => (spec_MergeAlike_ok v u ns us W hv hu hm hc (by omega)).mono fun e w' ⟨B1, d1, B2, d2, B3, d3, H0, H, he, z0, z1, z2, o1, o2, o3, hb⟩ => ⟨_, _, _, he, o1.wide (by omega) (by omega), o2.wide (by omega) (by omega), o3.wide (by omega) (by omega), hb⟩)
        (Lib.hid fun _ _ W v u hv hu => (impl_MergeAlike_ok v u ns us W hv hu hm hc (by omega)).mono fun e w' ⟨B1, d1, B2, d2, B3, d3, H0, H, he, z0, z1, z2, o1, o2, o3, hb⟩ => ⟨_, _, _, H0, H, he, z0, z1, z2, o1, o2, o3, hb⟩)
end Go.Proofs.Ytomojninngdbeaa

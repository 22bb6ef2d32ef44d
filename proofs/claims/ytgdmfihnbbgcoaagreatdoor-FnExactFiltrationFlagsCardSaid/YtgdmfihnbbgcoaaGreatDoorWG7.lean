/- The walk of the law FnExactFiltrationFlags, written by program: it returns true and writes nothing that was there. -/
import Derived.Test.YtgdmfihnbbgcoaaGreatDoorLB
import Derived.Test.YtgdmfihnbbgcoaaGreatDoorOA
import Derived.Test.YtgdmfihnbbgcoaaGreatDoorGA
namespace Go.Proofs.YtgdmfihnbbgcoaaGreatDoor
open Go.RowKit
set_option linter.unusedVariables false
set_option linter.unusedSimpArgs false
set_option maxHeartbeats 1000000 in
set_option maxRecDepth 100000 in
theorem walk_FiltrationFlags (aM_x0 : Int) (vM_1 : Value) (aM_x1 : List Int) (vM_2 : Value) (aM_x2 : List Int) (vA_0 : Value) (aA_x0 : List Nd) (r0_x0 : List Int) (r1_x0 : Int) (w : World) (hM_1 : Sl cI w vM_1 aM_x1) (hM_2 : Sl cI w vM_2 aM_x2) (hA_0 : Sl cN w vA_0 aA_x0) (hr0_0 : r0_x0.length ≤ 1048576)
    (HS : Hid (aM_x1.length + aM_x2.length + aA_x0.length ≤ 1048576 → ∀ (W : World) (vM_1 : Value) (vM_2 : Value) (vA_0 : Value), Sl cI W vM_1 aM_x1 → Sl cI W vM_2 aM_x2 → Sl cN W vA_0 aA_x0 → Calls Tryz.prog 26 #[.agg #[.int .i64 aM_x0, vM_1, vM_2], vA_0] W fun e w' => ∃ u0_0 : Value, e = .returned (.tuple #[u0_0, .int .i64 r1_x0]) ∧ Ob cI 2 W.heap.size w'.heap.size w' u0_0 r0_x0 ∧ Below W.heap.size W w'))
    (HI : Hid (aM_x1.length + aM_x2.length + aA_x0.length ≤ 1048576 → ∀ (W : World) (vM_1 : Value) (vM_2 : Value) (vA_0 : Value), Sl cI W vM_1 aM_x1 → Sl cI W vM_2 aM_x2 → Sl cN W vA_0 aA_x0 → Calls Tryz.prog 27 #[.agg #[.int .i64 aM_x0, vM_1, vM_2], vA_0] W fun e w' => ∃ u0_0 : Value, e = .returned (.tuple #[u0_0, .int .i64 r1_x0]) ∧ Ob cI 88 W.heap.size w'.heap.size w' u0_0 r0_x0 ∧ Below W.heap.size W w')) :
    Calls Tryz.prog 5 #[.agg #[.int .i64 aM_x0, vM_1, vM_2], vA_0] w fun e w' => e = .returned (.bool true) ∧ Below w.heap.size w w' := by
  rcases Nat.lt_or_ge 1048576 (aM_x1.length + aM_x2.length) with q0 | q0
  · obtain ⟨vM_1_A, vM_1_c, rfl⟩ := hM_1.opn
    obtain ⟨vM_2_A, vM_2_c, rfl⟩ := hM_2.opn
    have A := Below.refl w.heap.size w
    go_enter Tryz.func5, Tryz.ntmps5
    have hb1 := below_alloc' w (.cells #[.int .i64 aM_x0, .slice vM_1_A aM_x1.length vM_1_c, .slice vM_2_A aM_x2.length vM_2_c] 26)
    have y1 := size_alloc' w (.cells #[.int .i64 aM_x0, .slice vM_1_A aM_x1.length vM_1_c, .slice vM_2_A aM_x2.length vM_2_c] 26)
    replace A := A.trans (hb1.mono A.size)
    have z1 := hb1.size
    have b1 := Bk.new w #[.int .i64 aM_x0, .slice vM_1_A aM_x1.length vM_1_c, .slice vM_2_A aM_x2.length vM_2_c] 26
    clear hb1
    have b1s := b1.1
    have b1c := b1.2
    go_wp2_with fail
    clear b1s b1c
    refine (u_sz_Model aM_x0 _ aM_x1 _ aM_x2 _ _ (hM_1.below A) (hM_2.below A) (by omega)).mono ?_
    rintro e w2 ⟨rfl, hb⟩
    replace b1 := b1.below hb
    replace A := A.trans (hb.mono A.size)
    have z2 := hb.size
    clear hb
    rw [szL_neg (by omega)]
    have b1s := b1.1
    have b1c := b1.2
    have BB := Lib.hid A; clear A
    go_wp2
    go_ret
    exact ⟨rfl, BB.out⟩
  rcases Nat.lt_or_ge 1048576 (aM_x1.length + aM_x2.length + aA_x0.length) with q1 | q1
  · obtain ⟨vM_1_A, vM_1_c, rfl⟩ := hM_1.opn
    obtain ⟨vM_2_A, vM_2_c, rfl⟩ := hM_2.opn
    have A := Below.refl w.heap.size w
    go_enter Tryz.func5, Tryz.ntmps5
    have hb1 := below_alloc' w (.cells #[.int .i64 aM_x0, .slice vM_1_A aM_x1.length vM_1_c, .slice vM_2_A aM_x2.length vM_2_c] 26)
    have y1 := size_alloc' w (.cells #[.int .i64 aM_x0, .slice vM_1_A aM_x1.length vM_1_c, .slice vM_2_A aM_x2.length vM_2_c] 26)
    replace A := A.trans (hb1.mono A.size)
    have z1 := hb1.size
    have b1 := Bk.new w #[.int .i64 aM_x0, .slice vM_1_A aM_x1.length vM_1_c, .slice vM_2_A aM_x2.length vM_2_c] 26
    clear hb1
    have b1s := b1.1
    have b1c := b1.2
    go_wp2_with fail
    clear b1s b1c
    refine (u_sz_Model aM_x0 _ aM_x1 _ aM_x2 _ _ (hM_1.below A) (hM_2.below A) (by omega)).mono ?_
    rintro e w2 ⟨rfl, hb⟩
    replace b1 := b1.below hb
    replace A := A.trans (hb.mono A.size)
    have z2 := hb.size
    clear hb
    rw [szL_pos (by omega)]
    have b1s := b1.1
    have b1c := b1.2
    go_wp2_with fail
    clear b1s b1c
    refine (u_sz_SN _ aA_x0 _ _ (hA_0.below A) (by omega)).mono ?_
    rintro e w3 ⟨rfl, hb⟩
    replace b1 := b1.below hb
    replace A := A.trans (hb.mono A.size)
    have z3 := hb.size
    clear hb
    rw [szL_neg (by omega)]
    have b1s := b1.1
    have b1c := b1.2
    have BB := Lib.hid A; clear A
    go_wp2
    go_ret
    exact ⟨rfl, BB.out⟩
  have HS := Lib.hid (HS.out (by omega))
  have HI := Lib.hid (HI.out (by omega))
  obtain ⟨vM_1_A, vM_1_c, rfl⟩ := hM_1.opn
  obtain ⟨vM_2_A, vM_2_c, rfl⟩ := hM_2.opn
  have A := Below.refl w.heap.size w
  go_enter Tryz.func5, Tryz.ntmps5
  have hb1 := below_alloc' w (.cells #[.int .i64 aM_x0, .slice vM_1_A aM_x1.length vM_1_c, .slice vM_2_A aM_x2.length vM_2_c] 26)
  have y1 := size_alloc' w (.cells #[.int .i64 aM_x0, .slice vM_1_A aM_x1.length vM_1_c, .slice vM_2_A aM_x2.length vM_2_c] 26)
  replace A := A.trans (hb1.mono A.size)
  have z1 := hb1.size
  have b1 := Bk.new w #[.int .i64 aM_x0, .slice vM_1_A aM_x1.length vM_1_c, .slice vM_2_A aM_x2.length vM_2_c] 26
  clear hb1
  have b1s := b1.1
  have b1c := b1.2
  go_wp2_with fail
  clear b1s b1c
  refine (u_sz_Model aM_x0 _ aM_x1 _ aM_x2 _ _ (hM_1.below A) (hM_2.below A) (by omega)).mono ?_
  rintro e w2 ⟨rfl, hb⟩
  replace b1 := b1.below hb
  replace A := A.trans (hb.mono A.size)
  have z2 := hb.size
  clear hb
  rw [szL_pos (by omega)]
  have b1s := b1.1
  have b1c := b1.2
  go_wp2_with fail
  clear b1s b1c
  refine (u_sz_SN _ aA_x0 _ _ (hA_0.below A) (by omega)).mono ?_
  rintro e w3 ⟨rfl, hb⟩
  replace b1 := b1.below hb
  replace A := A.trans (hb.mono A.size)
  have z3 := hb.size
  clear hb
  rw [szL_pos (by omega)]
  have b1s := b1.1
  have b1c := b1.2
  go_wp2_with fail
  clear b1s b1c
  refine (u_to_Model aM_x0 _ aM_x1 _ aM_x2 _ (hM_1.below A) (hM_2.below A) (by omega)).mono ?_
  rintro e w4 ⟨tM_v1, tM_v2, H4_, rfl, hH4_a, hH4_b, o4_1, o4_2, hb⟩
  replace b1 := b1.below hb
  replace A := A.trans (hb.mono A.size)
  have z4 := hb.size
  clear hb
  obtain ⟨tM_v1_A, tM_v1_c, rfl⟩ := o4_1.opn
  obtain ⟨tM_v2_A, tM_v2_c, rfl⟩ := o4_2.opn
  have b1s := b1.1
  have b1c := b1.2
  go_wp2_with fail
  clear b1s b1c
  refine (u_to_SN _ aA_x0 _ (hA_0.below A) (by omega)).mono ?_
  rintro e w5 ⟨tA_v0, rfl, o5_0, hb⟩
  replace o4_1 := o4_1.below hb
  replace o4_2 := o4_2.below hb
  replace b1 := b1.below hb
  replace A := A.trans (hb.mono A.size)
  have z5 := hb.size
  clear hb
  have b1s := b1.1
  have b1c := b1.2
  go_wp2_with fail
  clear b1s b1c
  refine (HS.out _ _ _ _ o4_1.sl o4_2.sl o5_0.sl).mono ?_
  rintro e w6 ⟨w0_v0, rfl, r6_w0_0, hb⟩
  replace o4_1 := o4_1.below hb
  replace o4_2 := o4_2.below hb
  replace o5_0 := o5_0.below hb
  replace b1 := b1.below hb
  replace A := A.trans (hb.mono A.size)
  have z6 := hb.size
  clear hb
  clear o4_1
  clear o4_2
  clear o5_0
  have b1s := b1.1
  have b1c := b1.2
  go_wp2_with fail
  clear b1s b1c
  refine (u_to_Model aM_x0 _ aM_x1 _ aM_x2 _ (hM_1.below A) (hM_2.below A) (by omega)).mono ?_
  rintro e w7 ⟨xM_v1, xM_v2, H7_, rfl, hH7_a, hH7_b, o7_1, o7_2, hb⟩
  replace r6_w0_0 := r6_w0_0.below hb
  replace b1 := b1.below hb
  replace A := A.trans (hb.mono A.size)
  have z7 := hb.size
  clear hb
  obtain ⟨xM_v1_A, xM_v1_c, rfl⟩ := o7_1.opn
  obtain ⟨xM_v2_A, xM_v2_c, rfl⟩ := o7_2.opn
  have hb8 := below_alloc' w7 (.cells #[.int .i64 aM_x0, .slice xM_v1_A aM_x1.length xM_v1_c, .slice xM_v2_A aM_x2.length xM_v2_c] 33)
  have y8 := size_alloc' w7 (.cells #[.int .i64 aM_x0, .slice xM_v1_A aM_x1.length xM_v1_c, .slice xM_v2_A aM_x2.length xM_v2_c] 33)
  replace r6_w0_0 := r6_w0_0.below hb8
  replace o7_1 := o7_1.below hb8
  replace o7_2 := o7_2.below hb8
  replace b1 := b1.below hb8
  replace A := A.trans (hb8.mono A.size)
  have z8 := hb8.size
  have b8 := Bk.new w7 #[.int .i64 aM_x0, .slice xM_v1_A aM_x1.length xM_v1_c, .slice xM_v2_A aM_x2.length xM_v2_c] 33
  clear hb8
  have b1s := b1.1
  have b1c := b1.2
  have b8s := b8.1
  have b8c := b8.2
  go_wp2_with fail
  clear b1s b1c b8s b8c
  refine (u_to_SN _ aA_x0 _ (hA_0.below A) (by omega)).mono ?_
  rintro e w9 ⟨xA_v0, rfl, o9_0, hb⟩
  replace r6_w0_0 := r6_w0_0.below hb
  replace o7_1 := o7_1.below hb
  replace o7_2 := o7_2.below hb
  replace b1 := b1.below hb
  replace b8 := b8.below hb
  replace A := A.trans (hb.mono A.size)
  have z9 := hb.size
  clear hb
  have b1s := b1.1
  have b1c := b1.2
  have b8s := b8.1
  have b8c := b8.2
  go_wp2_with fail
  clear b1s b1c b8s b8c
  refine (HI.out _ _ _ _ o7_1.sl o7_2.sl o9_0.sl).mono ?_
  rintro e w10 ⟨g0_v0, rfl, r10_g0_0, hb⟩
  replace r6_w0_0 := r6_w0_0.below hb
  replace o7_1 := o7_1.below hb
  replace o7_2 := o7_2.below hb
  replace o9_0 := o9_0.below hb
  replace b1 := b1.below hb
  replace b8 := b8.below hb
  replace A := A.trans (hb.mono A.size)
  have z10 := hb.size
  clear hb
  have b1s := b1.1
  have b1c := b1.2
  have b8s := b8.1
  have b8c := b8.2
  go_wp2_with fail
  clear b1s b1c b8s b8c
  refine (u_eq_SI _ _ r0_x0 _ r10_g0_0.sl r6_w0_0.sl (by omega)).mono ?_
  rintro e w11 ⟨rfl, hb⟩
  replace r6_w0_0 := r6_w0_0.below hb
  replace o7_1 := o7_1.below hb
  replace o7_2 := o7_2.below hb
  replace o9_0 := o9_0.below hb
  replace r10_g0_0 := r10_g0_0.below hb
  replace b1 := b1.below hb
  replace b8 := b8.below hb
  replace A := A.trans (hb.mono A.size)
  have z11 := hb.size
  clear hb
  have b1s := b1.1
  have b1c := b1.2
  have b8s := b8.1
  have b8c := b8.2
  go_wp2_with fail
  clear b1s b1c b8s b8c
  have hq13_1 := hM_1.below A
  have hq13_2 := hM_2.below A
  have c0 : w11.cell? ⟨w7.heap.size, 0, none⟩ = some (.int .i64 aM_x0) := b8.2 0
  have c1 : w11.cell? ⟨w7.heap.size, 1, none⟩ = some (.slice xM_v1_A aM_x1.length xM_v1_c) := b8.2 1
  have c2 : w11.cell? ⟨w7.heap.size, 2, none⟩ = some (.slice xM_v2_A aM_x2.length xM_v2_c) := b8.2 2
  have d0 : w11.cell? ⟨w.heap.size, 0, none⟩ = some (.int .i64 aM_x0) := b1.2 0
  have d1 : w11.cell? ⟨w.heap.size, 1, none⟩ = some (.slice vM_1_A aM_x1.length vM_1_c) := b1.2 1
  have d2 : w11.cell? ⟨w.heap.size, 2, none⟩ = some (.slice vM_2_A aM_x2.length vM_2_c) := b1.2 2
  go_region_held3 (fun w' => w'.cell? ⟨w7.heap.size, 0, none⟩ = some (.int .i64 aM_x0) ∧ w'.cell? ⟨w7.heap.size, 1, none⟩ = some (.slice xM_v1_A aM_x1.length xM_v1_c) ∧ w'.cell? ⟨w7.heap.size, 2, none⟩ = some (.slice xM_v2_A aM_x2.length xM_v2_c) ∧ w'.cell? ⟨w.heap.size, 0, none⟩ = some (.int .i64 aM_x0) ∧ w'.cell? ⟨w.heap.size, 1, none⟩ = some (.slice vM_1_A aM_x1.length vM_1_c) ∧ w'.cell? ⟨w.heap.size, 2, none⟩ = some (.slice vM_2_A aM_x2.length vM_2_c)) (first | exact ⟨c0'', c1'', c2'', d0'', d1'', d2''⟩ | exact ⟨c0', c1', c2', d0', d1', d2'⟩ | exact ⟨c0, c1, c2, d0, d1, d2⟩ | (simp [*]; done)) (first | (go_at_call 10; refine (u_to_Model aM_x0 _ aM_x1 _ aM_x2 _ (hq13_1.below (below_drewN (Below.refl _ _) 1)) (hq13_2.below (below_drewN (Below.refl _ _) 1)) (by omega)).mono ?_; rintro e w12 ⟨y13_1, y13_2, Hy13_, rfl, hHy13_a, hHy13_b, oy13_1, oy13_2, hbP⟩; obtain ⟨y13_1_A, y13_1_c, rfl⟩ := oy13_1.opn; obtain ⟨y13_2_A, y13_2_c, rfl⟩ := oy13_2.opn; have hbP1 : Below w11.heap.size w11 w12 := (below_drewN (Below.refl _ _) 1).trans hbP; have c0' := (hbP1.cell (p := ⟨w7.heap.size, 0, none⟩) b8.1).trans c0; have c1' := (hbP1.cell (p := ⟨w7.heap.size, 1, none⟩) b8.1).trans c1; have c2' := (hbP1.cell (p := ⟨w7.heap.size, 2, none⟩) b8.1).trans c2; have d0' := (hbP1.cell (p := ⟨w.heap.size, 0, none⟩) b1.1).trans d0; have d1' := (hbP1.cell (p := ⟨w.heap.size, 1, none⟩) b1.1).trans d1; have d2' := (hbP1.cell (p := ⟨w.heap.size, 2, none⟩) b1.1).trans d2) | (go_at_call 14; refine (u_eq_Model aM_x0 _ _ aM_x1 _ _ aM_x2 _ (o7_1.below hbP1).sl (o7_2.below hbP1).sl oy13_1.sl oy13_2.sl (by omega)).mono ?_; rintro e w13 ⟨rfl, hbQ⟩; have c0'' := (hbQ.cell (p := ⟨w7.heap.size, 0, none⟩) (b8.below hbP1).1).trans c0'; have c1'' := (hbQ.cell (p := ⟨w7.heap.size, 1, none⟩) (b8.below hbP1).1).trans c1'; have c2'' := (hbQ.cell (p := ⟨w7.heap.size, 2, none⟩) (b8.below hbP1).1).trans c2'; have d0'' := (hbQ.cell (p := ⟨w.heap.size, 0, none⟩) (b1.below hbP1).1).trans d0'; have d1'' := (hbQ.cell (p := ⟨w.heap.size, 1, none⟩) (b1.below hbP1).1).trans d1'; have d2'' := (hbQ.cell (p := ⟨w.heap.size, 2, none⟩) (b1.below hbP1).1).trans d2'))
  have hb := bthen hbP1 hbQ
  clear c0'' c0' c0 c1'' c1' c1 c2'' c2' c2 d0'' d0' d0 d1'' d1' d1 d2'' d2' d2
  clear hbP hbQ hbP1 oy13_1 oy13_2
  clear hq13_1
  clear hq13_2
  replace r6_w0_0 := r6_w0_0.below hb
  replace o7_1 := o7_1.below hb
  replace o7_2 := o7_2.below hb
  replace o9_0 := o9_0.below hb
  replace r10_g0_0 := r10_g0_0.below hb
  replace b1 := b1.below hb
  replace b8 := b8.below hb
  replace A := A.trans (hb.mono A.size)
  have z13 := hb.size
  clear hb
  have b1s := b1.1
  have b1c := b1.2
  have b8s := b8.1
  have b8c := b8.2
  go_wp2_with fail
  clear b1s b1c b8s b8c
  refine (u_to_SN _ aA_x0 _ (hA_0.below A) (by omega)).mono ?_
  rintro e w14 ⟨yA_v0, rfl, o14_0, hb⟩
  replace r6_w0_0 := r6_w0_0.below hb
  replace o7_1 := o7_1.below hb
  replace o7_2 := o7_2.below hb
  replace o9_0 := o9_0.below hb
  replace r10_g0_0 := r10_g0_0.below hb
  replace b1 := b1.below hb
  replace b8 := b8.below hb
  replace A := A.trans (hb.mono A.size)
  have z14 := hb.size
  clear hb
  have b1s := b1.1
  have b1c := b1.2
  have b8s := b8.1
  have b8c := b8.2
  go_wp2_with fail
  clear b1s b1c b8s b8c
  refine (u_eq_SN _ _ aA_x0 _ o9_0.sl o14_0.sl (by omega)).mono ?_
  rintro e w15 ⟨rfl, hb⟩
  replace r6_w0_0 := r6_w0_0.below hb
  replace o7_1 := o7_1.below hb
  replace o7_2 := o7_2.below hb
  replace o9_0 := o9_0.below hb
  replace r10_g0_0 := r10_g0_0.below hb
  replace o14_0 := o14_0.below hb
  replace b1 := b1.below hb
  replace b8 := b8.below hb
  replace A := A.trans (hb.mono A.size)
  have z15 := hb.size
  clear hb
  clear o14_0
  have b1s := b1.1
  have b1c := b1.2
  have b8s := b8.1
  have b8c := b8.2
  go_wp2_with fail
  clear b1s b1c b8s b8c
  refine (u_mark_Model aM_x0 _ aM_x1 _ aM_x2 _ _ _ _ _ o7_1 o7_2 (by omega) (by omega) (by omega)).mono ?_
  rintro e w16 ⟨rfl, no7_1, no7_2, hk⟩
  replace r6_w0_0 := r6_w0_0.keep hk (by omega)
  replace o9_0 := o9_0.keep hk (by omega)
  replace r10_g0_0 := r10_g0_0.keep hk (by omega)
  clear o7_1; have o7_1 := no7_1; clear no7_1
  clear o7_2; have o7_2 := no7_2; clear no7_2
  replace b1 := b1.keep hk (by omega)
  replace b8 := b8.keep hk (by omega)
  replace A := below_keep A hk (by omega) A.size
  have z16 := hk.size
  clear hk
  have b1s := b1.1
  have b1c := b1.2
  have b8s := b8.1
  have b8c := b8.2
  go_wp2_with fail
  clear b1s b1c b8s b8c
  refine (u_mark_SN _ aA_x0 _ _ _ _ o9_0 (by omega) (by omega)).mono ?_
  rintro e w17 ⟨rfl, no9_0, hk⟩
  replace r6_w0_0 := r6_w0_0.keep hk (by omega)
  replace o7_1 := o7_1.keep hk (by omega)
  replace o7_2 := o7_2.keep hk (by omega)
  replace r10_g0_0 := r10_g0_0.keep hk (by omega)
  clear o9_0; have o9_0 := no9_0; clear no9_0
  replace b1 := b1.keep hk (by omega)
  replace b8 := b8.keep hk (by omega)
  replace A := below_keep A hk (by omega) A.size
  have z17 := hk.size
  clear hk
  have b1s := b1.1
  have b1c := b1.2
  have b8s := b8.1
  have b8c := b8.2
  go_wp2_with fail
  clear b1s b1c b8s b8c
  refine (u_eq_SI _ _ r0_x0 _ r10_g0_0.sl r6_w0_0.sl (by omega)).mono ?_
  rintro e w18 ⟨rfl, hb⟩
  replace r6_w0_0 := r6_w0_0.below hb
  replace o7_1 := o7_1.below hb
  replace o7_2 := o7_2.below hb
  replace o9_0 := o9_0.below hb
  replace r10_g0_0 := r10_g0_0.below hb
  replace b1 := b1.below hb
  replace b8 := b8.below hb
  replace A := A.trans (hb.mono A.size)
  have z18 := hb.size
  clear hb
  clear o7_1
  clear o7_2
  clear o9_0
  have b1s := b1.1
  have b1c := b1.2
  have b8s := b8.1
  have b8c := b8.2
  go_wp2_with fail
  clear b1s b1c b8s b8c
  refine (u_mark_SIe _ r0_x0 _ _ _ _ r10_g0_0 (by omega) (by omega)).mono ?_
  rintro e w19 ⟨rfl, nr10_g0_0, hk⟩
  replace r6_w0_0 := r6_w0_0.keep hk (by omega)
  clear r10_g0_0; have r10_g0_0 := nr10_g0_0; clear nr10_g0_0
  replace b1 := b1.keep hk (by omega)
  replace b8 := b8.keep hk (by omega)
  replace A := below_keep A hk (by omega) A.size
  have z19 := hk.size
  clear hk
  have b1s := b1.1
  have b1c := b1.2
  have b8s := b8.1
  have b8c := b8.2
  go_wp2_with fail
  clear b1s b1c b8s b8c
  refine (u_held_SI _ r0_x0.length _ _ r10_g0_0.sl (by omega) (by omega)).mono ?_
  rintro e w20 ⟨rfl, hb⟩
  replace r6_w0_0 := r6_w0_0.below hb
  replace r10_g0_0 := r10_g0_0.below hb
  replace b1 := b1.below hb
  replace b8 := b8.below hb
  replace A := A.trans (hb.mono A.size)
  have z20 := hb.size
  clear hb
  have b1s := b1.1
  have b1c := b1.2
  have b8s := b8.1
  have b8c := b8.2
  go_wp2_with fail
  clear b1s b1c b8s b8c
  refine (u_to_Model aM_x0 _ aM_x1 _ aM_x2 _ (hM_1.below A) (hM_2.below A) (by omega)).mono ?_
  rintro e w21 ⟨sM_v1, sM_v2, H21_, rfl, hH21_a, hH21_b, o21_1, o21_2, hb⟩
  replace r6_w0_0 := r6_w0_0.below hb
  replace r10_g0_0 := r10_g0_0.below hb
  replace b1 := b1.below hb
  replace b8 := b8.below hb
  replace A := A.trans (hb.mono A.size)
  have z21 := hb.size
  clear hb
  obtain ⟨sM_v1_A, sM_v1_c, rfl⟩ := o21_1.opn
  obtain ⟨sM_v2_A, sM_v2_c, rfl⟩ := o21_2.opn
  have b1s := b1.1
  have b1c := b1.2
  have b8s := b8.1
  have b8c := b8.2
  go_wp2_with fail
  clear b1s b1c b8s b8c
  refine (u_to_SN _ aA_x0 _ (hA_0.below A) (by omega)).mono ?_
  rintro e w22 ⟨sA_v0, rfl, o22_0, hb⟩
  replace r6_w0_0 := r6_w0_0.below hb
  replace r10_g0_0 := r10_g0_0.below hb
  replace o21_1 := o21_1.below hb
  replace o21_2 := o21_2.below hb
  replace b1 := b1.below hb
  replace b8 := b8.below hb
  replace A := A.trans (hb.mono A.size)
  have z22 := hb.size
  clear hb
  have b1s := b1.1
  have b1c := b1.2
  have b8s := b8.1
  have b8c := b8.2
  go_wp2_with fail
  clear b1s b1c b8s b8c
  refine (HI.out _ _ _ _ o21_1.sl o21_2.sl o22_0.sl).mono ?_
  rintro e w23 ⟨h0_v0, rfl, r23_h0_0, hb⟩
  replace r6_w0_0 := r6_w0_0.below hb
  replace r10_g0_0 := r10_g0_0.below hb
  replace o21_1 := o21_1.below hb
  replace o21_2 := o21_2.below hb
  replace o22_0 := o22_0.below hb
  replace b1 := b1.below hb
  replace b8 := b8.below hb
  replace A := A.trans (hb.mono A.size)
  have z23 := hb.size
  clear hb
  clear o21_1
  clear o21_2
  clear o22_0
  have b1s := b1.1
  have b1c := b1.2
  have b8s := b8.1
  have b8c := b8.2
  go_wp2_with fail
  clear b1s b1c b8s b8c
  refine (u_eq_SI _ _ r0_x0 _ r23_h0_0.sl r6_w0_0.sl (by omega)).mono ?_
  rintro e w24 ⟨rfl, hb⟩
  replace r6_w0_0 := r6_w0_0.below hb
  replace r10_g0_0 := r10_g0_0.below hb
  replace r23_h0_0 := r23_h0_0.below hb
  replace b1 := b1.below hb
  replace b8 := b8.below hb
  replace A := A.trans (hb.mono A.size)
  have z24 := hb.size
  clear hb
  have b1s := b1.1
  have b1c := b1.2
  have b8s := b8.1
  have b8c := b8.2
  go_wp2_with fail
  clear b1s b1c b8s b8c
  refine (u_held_SI _ r0_x0.length _ _ r10_g0_0.sl (by omega) (by omega)).mono ?_
  rintro e w25 ⟨rfl, hb⟩
  replace r6_w0_0 := r6_w0_0.below hb
  replace r10_g0_0 := r10_g0_0.below hb
  replace r23_h0_0 := r23_h0_0.below hb
  replace b1 := b1.below hb
  replace b8 := b8.below hb
  replace A := A.trans (hb.mono A.size)
  have z25 := hb.size
  clear hb
  have b1s := b1.1
  have b1c := b1.2
  have b8s := b8.1
  have b8c := b8.2
  have BB := Lib.hid A; clear A
  clear r6_w0_0 r10_g0_0 r23_h0_0
  go_wp2
  go_ret
  exact ⟨rfl, BB.out⟩
theorem mod_opn {va vu : Value} {ns us : List Nat} {w : World} (ha : Sl cI w va (li ns)) (hu : Sl cI w vu (li us)) (h6 : us.length = 6) : ∃ A0 c0 A1 c1, va = .slice A0 ns.length c0 ∧ vu = .slice A1 6 c1 := by
  obtain ⟨A0, c0, rfl⟩ := ha.opn
  obtain ⟨A1, c1, rfl⟩ := hu.opn
  exact ⟨A0, c0, A1, c1, by rw [li_length], by rw [li_length, h6]⟩
theorem flL_length (cs : List (List Nat)) : (flL cs).length = 11 := by simp [flL]
theorem final_FiltrationFlags (n : Int) (va : Value) (xs : List Int) (vu : Value) (vs : List Int) (vf : Value) (zs : List Nd) (w : World) (ha : Sl cI w va xs) (hu : Sl cI w vu vs) (hf : Sl cN w vf zs) :
    Calls Tryz.prog 5 #[.agg #[.int .i64 n, va, vu], vf] w fun e w' => e = .returned (.bool true) ∧ Below w.heap.size w w' := by
  rcases fcode_cases n xs vs zs with hc | ⟨-, hc⟩
  · obtain ⟨⟨ns, us, rfl, rfl, rfl, h1⟩, ⟨f, hok, rfl, hl⟩, hmk, hfk⟩ := fcode_zero hc
    have h8 := h1.r.1
    by_cases h7 : chc ns us f ≤ 7
    · refine walk_FiltrationFlags _ va _ vu _ vf _ (flL (cds (lst ns us f) (gre ns us f) (acn ns us f))) 0 w ha hu hf (by rw [flL_length]; omega) (Lib.hid fun _ W va vu vf ha hu hf => ?_) (Lib.hid fun _ W va vu vf ha hu hf => ?_)
      · obtain ⟨A0, c0, A1, c1, rfl, rfl⟩ := mod_opn ha hu h1.l
        exact (spec_FiltrationFlags_ok ns us f A0 A1 c0 c1 vf W ⟨ha, hu⟩ h1 hf hok hl hmk hfk h7).mono fun e w' ⟨u, he, ho, hb⟩ => ⟨u, he, ho.ob, hb⟩
      · obtain ⟨A0, c0, A1, c1, rfl, rfl⟩ := mod_opn ha hu h1.l
        exact (impl_FiltrationFlags_ok ns us f A0 A1 c0 c1 vf W ⟨ha, hu⟩ h1 hf hok hl hmk hfk h7).mono fun e w' ⟨u, he, ho, hb⟩ => ⟨u, he, ho.ob, hb⟩
    · refine walk_FiltrationFlags _ va _ vu _ vf _ [] 3 w ha hu hf (by simp) (Lib.hid fun _ W va vu vf ha hu hf => ?_) (Lib.hid fun _ W va vu vf ha hu hf => ?_)
      · obtain ⟨A0, c0, A1, c1, rfl, rfl⟩ := mod_opn ha hu h1.l
        exact (spec_FiltrationFlags_big ns us f A0 A1 c0 c1 vf W ⟨ha, hu⟩ h1 hf hok hl hmk hfk h7).mono fun e w' ⟨he, hb⟩ => ⟨_, he, (Ow.nil _ _).ob, hb⟩
      · obtain ⟨A0, c0, A1, c1, rfl, rfl⟩ := mod_opn ha hu h1.l
        exact (impl_FiltrationFlags_big ns us f A0 A1 c0 c1 vf W ⟨ha, hu⟩ h1 hf hok hl hmk hfk h7).mono fun e w' ⟨he, hb⟩ => ⟨_, he, (Ow.nil _ _).ob, hb⟩
  · exact walk_FiltrationFlags n va xs vu vs vf zs [] 1 w ha hu hf (by simp)
      (Lib.hid fun h1 W va vu vf ha hu hf => (spec_FiltrationFlags_bad n va vu vf xs vs zs W ha hu hf (by omega) (by omega) (by omega) hc).mono fun e w' ⟨he, hb⟩ => ⟨_, he, (Ow.nil _ _).ob, hb⟩)
      (Lib.hid fun h1 W va vu vf ha hu hf => (impl_FiltrationFlags_bad n va vu vf xs vs zs W ha hu hf (by omega) (by omega) (by omega) hc).mono fun e w' ⟨he, hb⟩ => ⟨_, he, (Ow.nil _ _).ob, hb⟩)
end Go.Proofs.YtgdmfihnbbgcoaaGreatDoor

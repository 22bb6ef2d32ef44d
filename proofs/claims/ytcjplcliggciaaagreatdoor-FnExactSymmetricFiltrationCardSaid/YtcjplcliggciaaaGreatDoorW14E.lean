/- The walk of the law FnExactSymmetricFiltration, written by program: it returns true and writes nothing that was there. -/
import Derived.Test.YtcjplcliggciaaaGreatDoorLB
import Derived.Test.YtcjplcliggciaaaGreatDoorOA
import Derived.Test.YtcjplcliggciaaaGreatDoor14E
namespace Go.Proofs.YtcjplcliggciaaaGreatDoor
open Go.RowKit
set_option linter.unusedVariables false
set_option linter.unusedSimpArgs false
set_option maxHeartbeats 1000000 in
set_option maxRecDepth 100000 in
theorem walk_SymmetricFiltration (aM_x0 : Int) (vM_1 : Value) (aM_x1 : List Int) (vM_2 : Value) (aM_x2 : List Int) (vA_0 : Value) (aA_x0 : List Nd) (r0_x0 : Int) (r0_x1 : List Int) (r1_x0 : Int) (w : World) (hM_1 : Sl cI w vM_1 aM_x1) (hM_2 : Sl cI w vM_2 aM_x2) (hA_0 : Sl cN w vA_0 aA_x0) (hr0_1 : r0_x1.length ≤ 1048576)
    (HS : Hid (aM_x1.length + aM_x2.length + aA_x0.length ≤ 1048576 → ∀ (W : World) (vM_1 : Value) (vM_2 : Value) (vA_0 : Value), Sl cI W vM_1 aM_x1 → Sl cI W vM_2 aM_x2 → Sl cN W vA_0 aA_x0 → Calls Tryz.prog 28 #[.agg #[.int .i64 aM_x0, vM_1, vM_2], vA_0] W fun e w' => ∃ u0_1 : Value, e = .returned (.tuple #[.agg #[.int .i64 r0_x0, u0_1], .int .i64 r1_x0]) ∧ Ob cI 2 W.heap.size w'.heap.size w' u0_1 r0_x1 ∧ Below W.heap.size W w'))
    (HI : Hid (aM_x1.length + aM_x2.length + aA_x0.length ≤ 1048576 → ∀ (W : World) (vM_1 : Value) (vM_2 : Value) (vA_0 : Value), Sl cI W vM_1 aM_x1 → Sl cI W vM_2 aM_x2 → Sl cN W vA_0 aA_x0 → Calls Tryz.prog 29 #[.agg #[.int .i64 aM_x0, vM_1, vM_2], vA_0] W fun e w' => ∃ u0_1 : Value, e = .returned (.tuple #[.agg #[.int .i64 r0_x0, u0_1], .int .i64 r1_x0]) ∧ Ob cI 2 W.heap.size w'.heap.size w' u0_1 r0_x1 ∧ Below W.heap.size W w')) :
    Calls Tryz.prog 6 #[.agg #[.int .i64 aM_x0, vM_1, vM_2], vA_0] w fun e w' => e = .returned (.bool true) ∧ Below w.heap.size w w' := by
  rcases Nat.lt_or_ge 1048576 (aM_x1.length + aM_x2.length) with q0 | q0
  · obtain ⟨vM_1_A, vM_1_c, rfl⟩ := hM_1.opn
    obtain ⟨vM_2_A, vM_2_c, rfl⟩ := hM_2.opn
    have A := Below.refl w.heap.size w
    go_enter Tryz.func6, Tryz.ntmps6
    have hb1 := below_alloc' w (.cells #[.int .i64 aM_x0, .slice vM_1_A aM_x1.length vM_1_c, .slice vM_2_A aM_x2.length vM_2_c] 26)
    have y1 := size_alloc' w (.cells #[.int .i64 aM_x0, .slice vM_1_A aM_x1.length vM_1_c, .slice vM_2_A aM_x2.length vM_2_c] 26)
    replace A := A.trans (hb1.mono A.size)
    have z1 := hb1.size
    have b1 := Bk.new w #[.int .i64 aM_x0, .slice vM_1_A aM_x1.length vM_1_c, .slice vM_2_A aM_x2.length vM_2_c] 26
    clear hb1
    have b1s := b1.1
    have b1c := b1.2
    go_wp2_with fail
    clear b1s b1c
    refine (u_sz_Model aM_x0 _ aM_x1 _ aM_x2 _ _ (hM_1.below A) (hM_2.below A) (by omega)).mono ?_
    rintro e w2 ⟨rfl, hb⟩
    replace b1 := b1.below hb
    replace A := A.trans (hb.mono A.size)
    have z2 := hb.size
    clear hb
    rw [szL_neg (by omega)]
    have b1s := b1.1
    have b1c := b1.2
    have BB := Lib.hid A; clear A
    go_wp2
    go_ret
    exact ⟨rfl, BB.out⟩
  rcases Nat.lt_or_ge 1048576 (aM_x1.length + aM_x2.length + aA_x0.length) with q1 | q1
  · obtain ⟨vM_1_A, vM_1_c, rfl⟩ := hM_1.opn
    obtain ⟨vM_2_A, vM_2_c, rfl⟩ := hM_2.opn
    have A := Below.refl w.heap.size w
    go_enter Tryz.func6, Tryz.ntmps6
    have hb1 := below_alloc' w (.cells #[.int .i64 aM_x0, .slice vM_1_A aM_x1.length vM_1_c, .slice vM_2_A aM_x2.length vM_2_c] 26)
    have y1 := size_alloc' w (.cells #[.int .i64 aM_x0, .slice vM_1_A aM_x1.length vM_1_c, .slice vM_2_A aM_x2.length vM_2_c] 26)
    replace A := A.trans (hb1.mono A.size)
    have z1 := hb1.size
    have b1 := Bk.new w #[.int .i64 aM_x0, .slice vM_1_A aM_x1.length vM_1_c, .slice vM_2_A aM_x2.length vM_2_c] 26
    clear hb1
    have b1s := b1.1
    have b1c := b1.2
    go_wp2_with fail
    clear b1s b1c
    refine (u_sz_Model aM_x0 _ aM_x1 _ aM_x2 _ _ (hM_1.below A) (hM_2.below A) (by omega)).mono ?_
    rintro e w2 ⟨rfl, hb⟩
    replace b1 := b1.below hb
    replace A := A.trans (hb.mono A.size)
    have z2 := hb.size
    clear hb
    rw [szL_pos (by omega)]
    have b1s := b1.1
    have b1c := b1.2
    go_wp2_with fail
    clear b1s b1c
    refine (u_sz_SN _ aA_x0 _ _ (hA_0.below A) (by omega)).mono ?_
    rintro e w3 ⟨rfl, hb⟩
    replace b1 := b1.below hb
    replace A := A.trans (hb.mono A.size)
    have z3 := hb.size
    clear hb
    rw [szL_neg (by omega)]
    have b1s := b1.1
    have b1c := b1.2
    have BB := Lib.hid A; clear A
    go_wp2
    go_ret
    exact ⟨rfl, BB.out⟩
  have HS := Lib.hid (HS.out (by omega))
  have HI := Lib.hid (HI.out (by omega))
  obtain ⟨vM_1_A, vM_1_c, rfl⟩ := hM_1.opn
  obtain ⟨vM_2_A, vM_2_c, rfl⟩ := hM_2.opn
  have A := Below.refl w.heap.size w
  go_enter Tryz.func6, Tryz.ntmps6
  have hb1 := below_alloc' w (.cells #[.int .i64 aM_x0, .slice vM_1_A aM_x1.length vM_1_c, .slice vM_2_A aM_x2.length vM_2_c] 26)
  have y1 := size_alloc' w (.cells #[.int .i64 aM_x0, .slice vM_1_A aM_x1.length vM_1_c, .slice vM_2_A aM_x2.length vM_2_c] 26)
  replace A := A.trans (hb1.mono A.size)
  have z1 := hb1.size
  have b1 := Bk.new w #[.int .i64 aM_x0, .slice vM_1_A aM_x1.length vM_1_c, .slice vM_2_A aM_x2.length vM_2_c] 26
  clear hb1
  have b1s := b1.1
  have b1c := b1.2
  go_wp2_with fail
  clear b1s b1c
  refine (u_sz_Model aM_x0 _ aM_x1 _ aM_x2 _ _ (hM_1.below A) (hM_2.below A) (by omega)).mono ?_
  rintro e w2 ⟨rfl, hb⟩
  replace b1 := b1.below hb
  replace A := A.trans (hb.mono A.size)
  have z2 := hb.size
  clear hb
  rw [szL_pos (by omega)]
  have b1s := b1.1
  have b1c := b1.2
  go_wp2_with fail
  clear b1s b1c
  refine (u_sz_SN _ aA_x0 _ _ (hA_0.below A) (by omega)).mono ?_
  rintro e w3 ⟨rfl, hb⟩
  replace b1 := b1.below hb
  replace A := A.trans (hb.mono A.size)
  have z3 := hb.size
  clear hb
  rw [szL_pos (by omega)]
  have b1s := b1.1
  have b1c := b1.2
  go_wp2_with fail
  clear b1s b1c
  refine (u_to_Model aM_x0 _ aM_x1 _ aM_x2 _ (hM_1.below A) (hM_2.below A) (by omega)).mono ?_
  rintro e w4 ⟨tM_v1, tM_v2, H4_, rfl, hH4_a, hH4_b, o4_1, o4_2, hb⟩
  replace b1 := b1.below hb
  replace A := A.trans (hb.mono A.size)
  have z4 := hb.size
  clear hb
  obtain ⟨tM_v1_A, tM_v1_c, rfl⟩ := o4_1.opn
  obtain ⟨tM_v2_A, tM_v2_c, rfl⟩ := o4_2.opn
  have b1s := b1.1
  have b1c := b1.2
  go_wp2_with fail
  clear b1s b1c
  refine (u_to_SN _ aA_x0 _ (hA_0.below A) (by omega)).mono ?_
  rintro e w5 ⟨tA_v0, rfl, o5_0, hb⟩
  replace o4_1 := o4_1.below hb
  replace o4_2 := o4_2.below hb
  replace b1 := b1.below hb
  replace A := A.trans (hb.mono A.size)
  have z5 := hb.size
  clear hb
  have b1s := b1.1
  have b1c := b1.2
  go_wp2_with fail
  clear b1s b1c
  refine (HS.out _ _ _ _ o4_1.sl o4_2.sl o5_0.sl).mono ?_
  rintro e w6 ⟨w0_v1, rfl, r6_w0_1, hb⟩
  replace o4_1 := o4_1.below hb
  replace o4_2 := o4_2.below hb
  replace o5_0 := o5_0.below hb
  replace b1 := b1.below hb
  replace A := A.trans (hb.mono A.size)
  have z6 := hb.size
  clear hb
  obtain ⟨w0_v1_A, w0_v1_c, rfl⟩ := r6_w0_1.opn
  clear o4_1
  clear o4_2
  clear o5_0
  have hb7 := below_alloc' w6 (.cells #[.int .i64 r0_x0, .slice w0_v1_A r0_x1.length w0_v1_c] 33)
  have y7 := size_alloc' w6 (.cells #[.int .i64 r0_x0, .slice w0_v1_A r0_x1.length w0_v1_c] 33)
  replace r6_w0_1 := r6_w0_1.below hb7
  replace b1 := b1.below hb7
  replace A := A.trans (hb7.mono A.size)
  have z7 := hb7.size
  have b7 := Bk.new w6 #[.int .i64 r0_x0, .slice w0_v1_A r0_x1.length w0_v1_c] 33
  clear hb7
  have b1s := b1.1
  have b1c := b1.2
  have b7s := b7.1
  have b7c := b7.2
  go_wp2_with fail
  clear b1s b1c b7s b7c
  refine (u_to_Model aM_x0 _ aM_x1 _ aM_x2 _ (hM_1.below A) (hM_2.below A) (by omega)).mono ?_
  rintro e w8 ⟨xM_v1, xM_v2, H8_, rfl, hH8_a, hH8_b, o8_1, o8_2, hb⟩
  replace r6_w0_1 := r6_w0_1.below hb
  replace b1 := b1.below hb
  replace b7 := b7.below hb
  replace A := A.trans (hb.mono A.size)
  have z8 := hb.size
  clear hb
  obtain ⟨xM_v1_A, xM_v1_c, rfl⟩ := o8_1.opn
  obtain ⟨xM_v2_A, xM_v2_c, rfl⟩ := o8_2.opn
  have hb9 := below_alloc' w8 (.cells #[.int .i64 aM_x0, .slice xM_v1_A aM_x1.length xM_v1_c, .slice xM_v2_A aM_x2.length xM_v2_c] 35)
  have y9 := size_alloc' w8 (.cells #[.int .i64 aM_x0, .slice xM_v1_A aM_x1.length xM_v1_c, .slice xM_v2_A aM_x2.length xM_v2_c] 35)
  replace r6_w0_1 := r6_w0_1.below hb9
  replace o8_1 := o8_1.below hb9
  replace o8_2 := o8_2.below hb9
  replace b1 := b1.below hb9
  replace b7 := b7.below hb9
  replace A := A.trans (hb9.mono A.size)
  have z9 := hb9.size
  have b9 := Bk.new w8 #[.int .i64 aM_x0, .slice xM_v1_A aM_x1.length xM_v1_c, .slice xM_v2_A aM_x2.length xM_v2_c] 35
  clear hb9
  have b1s := b1.1
  have b1c := b1.2
  have b7s := b7.1
  have b7c := b7.2
  have b9s := b9.1
  have b9c := b9.2
  go_wp2_with fail
  clear b1s b1c b7s b7c b9s b9c
  refine (u_to_SN _ aA_x0 _ (hA_0.below A) (by omega)).mono ?_
  rintro e w10 ⟨xA_v0, rfl, o10_0, hb⟩
  replace r6_w0_1 := r6_w0_1.below hb
  replace o8_1 := o8_1.below hb
  replace o8_2 := o8_2.below hb
  replace b1 := b1.below hb
  replace b7 := b7.below hb
  replace b9 := b9.below hb
  replace A := A.trans (hb.mono A.size)
  have z10 := hb.size
  clear hb
  have b1s := b1.1
  have b1c := b1.2
  have b7s := b7.1
  have b7c := b7.2
  have b9s := b9.1
  have b9c := b9.2
  go_wp2_with fail
  clear b1s b1c b7s b7c b9s b9c
  refine (HI.out _ _ _ _ o8_1.sl o8_2.sl o10_0.sl).mono ?_
  rintro e w11 ⟨g0_v1, rfl, r11_g0_1, hb⟩
  replace r6_w0_1 := r6_w0_1.below hb
  replace o8_1 := o8_1.below hb
  replace o8_2 := o8_2.below hb
  replace o10_0 := o10_0.below hb
  replace b1 := b1.below hb
  replace b7 := b7.below hb
  replace b9 := b9.below hb
  replace A := A.trans (hb.mono A.size)
  have z11 := hb.size
  clear hb
  obtain ⟨g0_v1_A, g0_v1_c, rfl⟩ := r11_g0_1.opn
  have hb12 := below_alloc' w11 (.cells #[.int .i64 r0_x0, .slice g0_v1_A r0_x1.length g0_v1_c] 33)
  have y12 := size_alloc' w11 (.cells #[.int .i64 r0_x0, .slice g0_v1_A r0_x1.length g0_v1_c] 33)
  replace r6_w0_1 := r6_w0_1.below hb12
  replace o8_1 := o8_1.below hb12
  replace o8_2 := o8_2.below hb12
  replace o10_0 := o10_0.below hb12
  replace r11_g0_1 := r11_g0_1.below hb12
  replace b1 := b1.below hb12
  replace b7 := b7.below hb12
  replace b9 := b9.below hb12
  replace A := A.trans (hb12.mono A.size)
  have z12 := hb12.size
  have b12 := Bk.new w11 #[.int .i64 r0_x0, .slice g0_v1_A r0_x1.length g0_v1_c] 33
  clear hb12
  have b1s := b1.1
  have b1c := b1.2
  have b7s := b7.1
  have b7c := b7.2
  have b9s := b9.1
  have b9c := b9.2
  have b12s := b12.1
  have b12c := b12.2
  go_wp2_with fail
  clear b1s b1c b7s b7c b9s b9c b12s b12c
  refine (u_eq_Frame r0_x0 _ _ r0_x1 _ r11_g0_1.sl r6_w0_1.sl (by omega)).mono ?_
  rintro e w13 ⟨rfl, hb⟩
  replace r6_w0_1 := r6_w0_1.below hb
  replace o8_1 := o8_1.below hb
  replace o8_2 := o8_2.below hb
  replace o10_0 := o10_0.below hb
  replace r11_g0_1 := r11_g0_1.below hb
  replace b1 := b1.below hb
  replace b7 := b7.below hb
  replace b9 := b9.below hb
  replace b12 := b12.below hb
  replace A := A.trans (hb.mono A.size)
  have z13 := hb.size
  clear hb
  have b1s := b1.1
  have b1c := b1.2
  have b7s := b7.1
  have b7c := b7.2
  have b9s := b9.1
  have b9c := b9.2
  have b12s := b12.1
  have b12c := b12.2
  go_wp2_with fail
  clear b1s b1c b7s b7c b9s b9c b12s b12c
  have hq15_1 := hM_1.below A
  have hq15_2 := hM_2.below A
  have c0 : w13.cell? ⟨w8.heap.size, 0, none⟩ = some (.int .i64 aM_x0) := b9.2 0
  have c1 : w13.cell? ⟨w8.heap.size, 1, none⟩ = some (.slice xM_v1_A aM_x1.length xM_v1_c) := b9.2 1
  have c2 : w13.cell? ⟨w8.heap.size, 2, none⟩ = some (.slice xM_v2_A aM_x2.length xM_v2_c) := b9.2 2
  have d0 : w13.cell? ⟨w.heap.size, 0, none⟩ = some (.int .i64 aM_x0) := b1.2 0
  have d1 : w13.cell? ⟨w.heap.size, 1, none⟩ = some (.slice vM_1_A aM_x1.length vM_1_c) := b1.2 1
  have d2 : w13.cell? ⟨w.heap.size, 2, none⟩ = some (.slice vM_2_A aM_x2.length vM_2_c) := b1.2 2
  go_region_held3 (fun w' => w'.cell? ⟨w8.heap.size, 0, none⟩ = some (.int .i64 aM_x0) ∧ w'.cell? ⟨w8.heap.size, 1, none⟩ = some (.slice xM_v1_A aM_x1.length xM_v1_c) ∧ w'.cell? ⟨w8.heap.size, 2, none⟩ = some (.slice xM_v2_A aM_x2.length xM_v2_c) ∧ w'.cell? ⟨w.heap.size, 0, none⟩ = some (.int .i64 aM_x0) ∧ w'.cell? ⟨w.heap.size, 1, none⟩ = some (.slice vM_1_A aM_x1.length vM_1_c) ∧ w'.cell? ⟨w.heap.size, 2, none⟩ = some (.slice vM_2_A aM_x2.length vM_2_c)) (first | exact ⟨c0'', c1'', c2'', d0'', d1'', d2''⟩ | exact ⟨c0', c1', c2', d0', d1', d2'⟩ | exact ⟨c0, c1, c2, d0, d1, d2⟩ | (simp [*]; done)) (first | (go_at_call 13; refine (u_to_Model aM_x0 _ aM_x1 _ aM_x2 _ (hq15_1.below (below_drewN (Below.refl _ _) 1)) (hq15_2.below (below_drewN (Below.refl _ _) 1)) (by omega)).mono ?_; rintro e w14 ⟨y15_1, y15_2, Hy15_, rfl, hHy15_a, hHy15_b, oy15_1, oy15_2, hbP⟩; obtain ⟨y15_1_A, y15_1_c, rfl⟩ := oy15_1.opn; obtain ⟨y15_2_A, y15_2_c, rfl⟩ := oy15_2.opn; have hbP1 : Below w13.heap.size w13 w14 := (below_drewN (Below.refl _ _) 1).trans hbP; have c0' := (hbP1.cell (p := ⟨w8.heap.size, 0, none⟩) b9.1).trans c0; have c1' := (hbP1.cell (p := ⟨w8.heap.size, 1, none⟩) b9.1).trans c1; have c2' := (hbP1.cell (p := ⟨w8.heap.size, 2, none⟩) b9.1).trans c2; have d0' := (hbP1.cell (p := ⟨w.heap.size, 0, none⟩) b1.1).trans d0; have d1' := (hbP1.cell (p := ⟨w.heap.size, 1, none⟩) b1.1).trans d1; have d2' := (hbP1.cell (p := ⟨w.heap.size, 2, none⟩) b1.1).trans d2) | (go_at_call 17; refine (u_eq_Model aM_x0 _ _ aM_x1 _ _ aM_x2 _ (o8_1.below hbP1).sl (o8_2.below hbP1).sl oy15_1.sl oy15_2.sl (by omega)).mono ?_; rintro e w15 ⟨rfl, hbQ⟩; have c0'' := (hbQ.cell (p := ⟨w8.heap.size, 0, none⟩) (b9.below hbP1).1).trans c0'; have c1'' := (hbQ.cell (p := ⟨w8.heap.size, 1, none⟩) (b9.below hbP1).1).trans c1'; have c2'' := (hbQ.cell (p := ⟨w8.heap.size, 2, none⟩) (b9.below hbP1).1).trans c2'; have d0'' := (hbQ.cell (p := ⟨w.heap.size, 0, none⟩) (b1.below hbP1).1).trans d0'; have d1'' := (hbQ.cell (p := ⟨w.heap.size, 1, none⟩) (b1.below hbP1).1).trans d1'; have d2'' := (hbQ.cell (p := ⟨w.heap.size, 2, none⟩) (b1.below hbP1).1).trans d2'))
  have hb := bthen hbP1 hbQ
  clear c0'' c0' c0 c1'' c1' c1 c2'' c2' c2 d0'' d0' d0 d1'' d1' d1 d2'' d2' d2
  clear hbP hbQ hbP1 oy15_1 oy15_2
  clear hq15_1
  clear hq15_2
  replace r6_w0_1 := r6_w0_1.below hb
  replace o8_1 := o8_1.below hb
  replace o8_2 := o8_2.below hb
  replace o10_0 := o10_0.below hb
  replace r11_g0_1 := r11_g0_1.below hb
  replace b1 := b1.below hb
  replace b7 := b7.below hb
  replace b9 := b9.below hb
  replace b12 := b12.below hb
  replace A := A.trans (hb.mono A.size)
  have z15 := hb.size
  clear hb
  have b1s := b1.1
  have b1c := b1.2
  have b7s := b7.1
  have b7c := b7.2
  have b9s := b9.1
  have b9c := b9.2
  have b12s := b12.1
  have b12c := b12.2
  go_wp2_with fail
  clear b1s b1c b7s b7c b9s b9c b12s b12c
  refine (u_to_SN _ aA_x0 _ (hA_0.below A) (by omega)).mono ?_
  rintro e w16 ⟨yA_v0, rfl, o16_0, hb⟩
  replace r6_w0_1 := r6_w0_1.below hb
  replace o8_1 := o8_1.below hb
  replace o8_2 := o8_2.below hb
  replace o10_0 := o10_0.below hb
  replace r11_g0_1 := r11_g0_1.below hb
  replace b1 := b1.below hb
  replace b7 := b7.below hb
  replace b9 := b9.below hb
  replace b12 := b12.below hb
  replace A := A.trans (hb.mono A.size)
  have z16 := hb.size
  clear hb
  have b1s := b1.1
  have b1c := b1.2
  have b7s := b7.1
  have b7c := b7.2
  have b9s := b9.1
  have b9c := b9.2
  have b12s := b12.1
  have b12c := b12.2
  go_wp2_with fail
  clear b1s b1c b7s b7c b9s b9c b12s b12c
  refine (u_eq_SN _ _ aA_x0 _ o10_0.sl o16_0.sl (by omega)).mono ?_
  rintro e w17 ⟨rfl, hb⟩
  replace r6_w0_1 := r6_w0_1.below hb
  replace o8_1 := o8_1.below hb
  replace o8_2 := o8_2.below hb
  replace o10_0 := o10_0.below hb
  replace r11_g0_1 := r11_g0_1.below hb
  replace o16_0 := o16_0.below hb
  replace b1 := b1.below hb
  replace b7 := b7.below hb
  replace b9 := b9.below hb
  replace b12 := b12.below hb
  replace A := A.trans (hb.mono A.size)
  have z17 := hb.size
  clear hb
  clear o16_0
  have b1s := b1.1
  have b1c := b1.2
  have b7s := b7.1
  have b7c := b7.2
  have b9s := b9.1
  have b9c := b9.2
  have b12s := b12.1
  have b12c := b12.2
  go_wp2_with fail
  clear b1s b1c b7s b7c b9s b9c b12s b12c
  refine (u_mark_Model aM_x0 _ aM_x1 _ aM_x2 _ _ _ _ _ o8_1 o8_2 (by omega) (by omega) (by omega)).mono ?_
  rintro e w18 ⟨rfl, no8_1, no8_2, hk⟩
  replace r6_w0_1 := r6_w0_1.keep hk (by omega)
  replace o10_0 := o10_0.keep hk (by omega)
  replace r11_g0_1 := r11_g0_1.keep hk (by omega)
  clear o8_1; have o8_1 := no8_1; clear no8_1
  clear o8_2; have o8_2 := no8_2; clear no8_2
  replace b1 := b1.keep hk (by omega)
  replace b7 := b7.keep hk (by omega)
  replace b9 := b9.keep hk (by omega)
  replace b12 := b12.keep hk (by omega)
  replace A := below_keep A hk (by omega) A.size
  have z18 := hk.size
  clear hk
  have b1s := b1.1
  have b1c := b1.2
  have b7s := b7.1
  have b7c := b7.2
  have b9s := b9.1
  have b9c := b9.2
  have b12s := b12.1
  have b12c := b12.2
  go_wp2_with fail
  clear b1s b1c b7s b7c b9s b9c b12s b12c
  refine (u_mark_SN _ aA_x0 _ _ _ _ o10_0 (by omega) (by omega)).mono ?_
  rintro e w19 ⟨rfl, no10_0, hk⟩
  replace r6_w0_1 := r6_w0_1.keep hk (by omega)
  replace o8_1 := o8_1.keep hk (by omega)
  replace o8_2 := o8_2.keep hk (by omega)
  replace r11_g0_1 := r11_g0_1.keep hk (by omega)
  clear o10_0; have o10_0 := no10_0; clear no10_0
  replace b1 := b1.keep hk (by omega)
  replace b7 := b7.keep hk (by omega)
  replace b9 := b9.keep hk (by omega)
  replace b12 := b12.keep hk (by omega)
  replace A := below_keep A hk (by omega) A.size
  have z19 := hk.size
  clear hk
  have b1s := b1.1
  have b1c := b1.2
  have b7s := b7.1
  have b7c := b7.2
  have b9s := b9.1
  have b9c := b9.2
  have b12s := b12.1
  have b12c := b12.2
  go_wp2_with fail
  clear b1s b1c b7s b7c b9s b9c b12s b12c
  refine (u_eq_Frame r0_x0 _ _ r0_x1 _ r11_g0_1.sl r6_w0_1.sl (by omega)).mono ?_
  rintro e w20 ⟨rfl, hb⟩
  replace r6_w0_1 := r6_w0_1.below hb
  replace o8_1 := o8_1.below hb
  replace o8_2 := o8_2.below hb
  replace o10_0 := o10_0.below hb
  replace r11_g0_1 := r11_g0_1.below hb
  replace b1 := b1.below hb
  replace b7 := b7.below hb
  replace b9 := b9.below hb
  replace b12 := b12.below hb
  replace A := A.trans (hb.mono A.size)
  have z20 := hb.size
  clear hb
  clear o8_1
  clear o8_2
  clear o10_0
  have b1s := b1.1
  have b1c := b1.2
  have b7s := b7.1
  have b7c := b7.2
  have b9s := b9.1
  have b9c := b9.2
  have b12s := b12.1
  have b12c := b12.2
  go_wp2_with fail
  clear b1s b1c b7s b7c b9s b9c b12s b12c
  refine (u_mark_Frame r0_x0 _ r0_x1 _ _ _ _ r11_g0_1 (by omega) (by omega)).mono ?_
  rintro e w21 ⟨rfl, nr11_g0_1, hk⟩
  replace r6_w0_1 := r6_w0_1.keep hk (by omega)
  clear r11_g0_1; have r11_g0_1 := nr11_g0_1; clear nr11_g0_1
  replace b1 := b1.keep hk (by omega)
  replace b7 := b7.keep hk (by omega)
  replace b9 := b9.keep hk (by omega)
  replace b12 := b12.keep hk (by omega)
  replace A := below_keep A hk (by omega) A.size
  have z21 := hk.size
  clear hk
  have b1s := b1.1
  have b1c := b1.2
  have b7s := b7.1
  have b7c := b7.2
  have b9s := b9.1
  have b9c := b9.2
  have b12s := b12.1
  have b12c := b12.2
  go_wp2_with fail
  clear b1s b1c b7s b7c b9s b9c b12s b12c
  refine (u_held_Frame r0_x0 _ r0_x1.length _ _ r11_g0_1.sl (by omega) (by omega)).mono ?_
  rintro e w22 ⟨rfl, hb⟩
  replace r6_w0_1 := r6_w0_1.below hb
  replace r11_g0_1 := r11_g0_1.below hb
  replace b1 := b1.below hb
  replace b7 := b7.below hb
  replace b9 := b9.below hb
  replace b12 := b12.below hb
  replace A := A.trans (hb.mono A.size)
  have z22 := hb.size
  clear hb
  have b1s := b1.1
  have b1c := b1.2
  have b7s := b7.1
  have b7c := b7.2
  have b9s := b9.1
  have b9c := b9.2
  have b12s := b12.1
  have b12c := b12.2
  go_wp2_with fail
  clear b1s b1c b7s b7c b9s b9c b12s b12c
  refine (u_to_Model aM_x0 _ aM_x1 _ aM_x2 _ (hM_1.below A) (hM_2.below A) (by omega)).mono ?_
  rintro e w23 ⟨sM_v1, sM_v2, H23_, rfl, hH23_a, hH23_b, o23_1, o23_2, hb⟩
  replace r6_w0_1 := r6_w0_1.below hb
  replace r11_g0_1 := r11_g0_1.below hb
  replace b1 := b1.below hb
  replace b7 := b7.below hb
  replace b9 := b9.below hb
  replace b12 := b12.below hb
  replace A := A.trans (hb.mono A.size)
  have z23 := hb.size
  clear hb
  obtain ⟨sM_v1_A, sM_v1_c, rfl⟩ := o23_1.opn
  obtain ⟨sM_v2_A, sM_v2_c, rfl⟩ := o23_2.opn
  have b1s := b1.1
  have b1c := b1.2
  have b7s := b7.1
  have b7c := b7.2
  have b9s := b9.1
  have b9c := b9.2
  have b12s := b12.1
  have b12c := b12.2
  go_wp2_with fail
  clear b1s b1c b7s b7c b9s b9c b12s b12c
  refine (u_to_SN _ aA_x0 _ (hA_0.below A) (by omega)).mono ?_
  rintro e w24 ⟨sA_v0, rfl, o24_0, hb⟩
  replace r6_w0_1 := r6_w0_1.below hb
  replace r11_g0_1 := r11_g0_1.below hb
  replace o23_1 := o23_1.below hb
  replace o23_2 := o23_2.below hb
  replace b1 := b1.below hb
  replace b7 := b7.below hb
  replace b9 := b9.below hb
  replace b12 := b12.below hb
  replace A := A.trans (hb.mono A.size)
  have z24 := hb.size
  clear hb
  have b1s := b1.1
  have b1c := b1.2
  have b7s := b7.1
  have b7c := b7.2
  have b9s := b9.1
  have b9c := b9.2
  have b12s := b12.1
  have b12c := b12.2
  go_wp2_with fail
  clear b1s b1c b7s b7c b9s b9c b12s b12c
  refine (HI.out _ _ _ _ o23_1.sl o23_2.sl o24_0.sl).mono ?_
  rintro e w25 ⟨h0_v1, rfl, r25_h0_1, hb⟩
  replace r6_w0_1 := r6_w0_1.below hb
  replace r11_g0_1 := r11_g0_1.below hb
  replace o23_1 := o23_1.below hb
  replace o23_2 := o23_2.below hb
  replace o24_0 := o24_0.below hb
  replace b1 := b1.below hb
  replace b7 := b7.below hb
  replace b9 := b9.below hb
  replace b12 := b12.below hb
  replace A := A.trans (hb.mono A.size)
  have z25 := hb.size
  clear hb
  obtain ⟨h0_v1_A, h0_v1_c, rfl⟩ := r25_h0_1.opn
  clear o23_1
  clear o23_2
  clear o24_0
  have hb26 := below_alloc' w25 (.cells #[.int .i64 r0_x0, .slice h0_v1_A r0_x1.length h0_v1_c] 33)
  have y26 := size_alloc' w25 (.cells #[.int .i64 r0_x0, .slice h0_v1_A r0_x1.length h0_v1_c] 33)
  replace r6_w0_1 := r6_w0_1.below hb26
  replace r11_g0_1 := r11_g0_1.below hb26
  replace r25_h0_1 := r25_h0_1.below hb26
  replace b1 := b1.below hb26
  replace b7 := b7.below hb26
  replace b9 := b9.below hb26
  replace b12 := b12.below hb26
  replace A := A.trans (hb26.mono A.size)
  have z26 := hb26.size
  have b26 := Bk.new w25 #[.int .i64 r0_x0, .slice h0_v1_A r0_x1.length h0_v1_c] 33
  clear hb26
  have b1s := b1.1
  have b1c := b1.2
  have b7s := b7.1
  have b7c := b7.2
  have b9s := b9.1
  have b9c := b9.2
  have b12s := b12.1
  have b12c := b12.2
  have b26s := b26.1
  have b26c := b26.2
  go_wp2_with fail
  clear b1s b1c b7s b7c b9s b9c b12s b12c b26s b26c
  refine (u_eq_Frame r0_x0 _ _ r0_x1 _ r25_h0_1.sl r6_w0_1.sl (by omega)).mono ?_
  rintro e w27 ⟨rfl, hb⟩
  replace r6_w0_1 := r6_w0_1.below hb
  replace r11_g0_1 := r11_g0_1.below hb
  replace r25_h0_1 := r25_h0_1.below hb
  replace b1 := b1.below hb
  replace b7 := b7.below hb
  replace b9 := b9.below hb
  replace b12 := b12.below hb
  replace b26 := b26.below hb
  replace A := A.trans (hb.mono A.size)
  have z27 := hb.size
  clear hb
  have b1s := b1.1
  have b1c := b1.2
  have b7s := b7.1
  have b7c := b7.2
  have b9s := b9.1
  have b9c := b9.2
  have b12s := b12.1
  have b12c := b12.2
  have b26s := b26.1
  have b26c := b26.2
  go_wp2_with fail
  clear b1s b1c b7s b7c b9s b9c b12s b12c b26s b26c
  refine (u_held_Frame r0_x0 _ r0_x1.length _ _ r11_g0_1.sl (by omega) (by omega)).mono ?_
  rintro e w28 ⟨rfl, hb⟩
  replace r6_w0_1 := r6_w0_1.below hb
  replace r11_g0_1 := r11_g0_1.below hb
  replace r25_h0_1 := r25_h0_1.below hb
  replace b1 := b1.below hb
  replace b7 := b7.below hb
  replace b9 := b9.below hb
  replace b12 := b12.below hb
  replace b26 := b26.below hb
  replace A := A.trans (hb.mono A.size)
  have z28 := hb.size
  clear hb
  have b1s := b1.1
  have b1c := b1.2
  have b7s := b7.1
  have b7c := b7.2
  have b9s := b9.1
  have b9c := b9.2
  have b12s := b12.1
  have b12c := b12.2
  have b26s := b26.1
  have b26c := b26.2
  have BB := Lib.hid A; clear A
  clear r6_w0_1 r11_g0_1 r25_h0_1
  go_wp2
  go_ret
  exact ⟨rfl, BB.out⟩
theorem mod_opn {va vu : Value} {ns us : List Nat} {w : World} (ha : Sl cI w va (li ns)) (hu : Sl cI w vu (li us)) (h6 : us.length = 6) : ∃ A0 c0 A1 c1, va = .slice A0 ns.length c0 ∧ vu = .slice A1 6 c1 := by
  obtain ⟨A0, c0, rfl⟩ := ha.opn
  obtain ⟨A1, c1, rfl⟩ := hu.opn
  exact ⟨A0, c0, A1, c1, by rw [li_length], by rw [li_length, h6]⟩
theorem final_SymmetricFiltration (n : Int) (va : Value) (xs : List Int) (vu : Value) (vs : List Int) (vf : Value) (zs : List Nd) (w : World) (ha : Sl cI w va xs) (hu : Sl cI w vu vs) (hf : Sl cN w vf zs) :
    Calls Tryz.prog 6 #[.agg #[.int .i64 n, va, vu], vf] w fun e w' => e = .returned (.bool true) ∧ Below w.heap.size w w' := by
  rcases fcode_cases n xs vs zs with hc | ⟨-, hc⟩
  · obtain ⟨⟨ns, us, rfl, rfl, rfl, h1⟩, ⟨f, hok, rfl, hl⟩, hmk, hfk⟩ := fcode_zero hc
    have h8 := h1.r.1
    cases hfg : sym ns
    · refine walk_SymmetricFiltration _ va _ vu _ vf _ 0 [] 5 w ha hu hf (by simp) (Lib.hid fun _ W va vu vf ha hu hf => ?_) (Lib.hid fun _ W va vu vf ha hu hf => ?_)
      · obtain ⟨A0, c0, A1, c1, rfl, rfl⟩ := mod_opn ha hu h1.l
        exact (spec_SymmetricFiltration_state ns us f A0 A1 c0 c1 vf W ⟨ha, hu⟩ h1 hf hok hl hmk hfk hfg).mono fun e w' ⟨he, hb⟩ => ⟨_, he, (Ow.nil _ _).ob, hb⟩
      · obtain ⟨A0, c0, A1, c1, rfl, rfl⟩ := mod_opn ha hu h1.l
        exact (impl_SymmetricFiltration_state ns us f A0 A1 c0 c1 vf W ⟨ha, hu⟩ h1 hf hok hl hmk hfk hfg).mono fun e w' ⟨he, hb⟩ => ⟨_, he, (Ow.nil _ _).ob, hb⟩
    · refine walk_SymmetricFiltration _ va _ vu _ vf _ (acn ns us f : Nat) (li (sfl ns us f)) 0 w ha hu hf (by rw [li_length, sfl_length]; have := acn_le ns us f; omega) (Lib.hid fun _ W va vu vf ha hu hf => ?_) (Lib.hid fun _ W va vu vf ha hu hf => ?_)
      · obtain ⟨A0, c0, A1, c1, rfl, rfl⟩ := mod_opn ha hu h1.l
        exact (spec_SymmetricFiltration_ok ns us f A0 A1 c0 c1 vf W ⟨ha, hu⟩ h1 hf hok hl hmk hfk hfg).mono fun e w' ⟨u, he, ho, hb⟩ => ⟨u, he, ho.ob, hb⟩
      · obtain ⟨A0, c0, A1, c1, rfl, rfl⟩ := mod_opn ha hu h1.l
        exact (impl_SymmetricFiltration_ok ns us f A0 A1 c0 c1 vf W ⟨ha, hu⟩ h1 hf hok hl hmk hfk hfg).mono fun e w' ⟨u, he, ho, hb⟩ => ⟨u, he, ho.ob, hb⟩
  · exact walk_SymmetricFiltration n va xs vu vs vf zs 0 [] 1 w ha hu hf (by simp)
      (Lib.hid fun h1 W va vu vf ha hu hf => (spec_SymmetricFiltration_bad n va vu vf xs vs zs W ha hu hf (by omega) (by omega) (by omega) hc).mono fun e w' ⟨he, hb⟩ => ⟨_, he, (Ow.nil _ _).ob, hb⟩)
      (Lib.hid fun h1 W va vu vf ha hu hf => (impl_SymmetricFiltration_bad n va vu vf xs vs zs W ha hu hf (by omega) (by omega) (by omega) hc).mono fun e w' ⟨he, hb⟩ => ⟨_, he, (Ow.nil _ _).ob, hb⟩)
end Go.Proofs.YtcjplcliggciaaaGreatDoor

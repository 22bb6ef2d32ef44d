/- The walk of the law FnExactCongruenceOfFilter, written by program: it returns true and writes nothing that was there. -/
import Derived.Test.YtkllbehdmlbhaaaLB
import Derived.Test.Ytkllbehdmlbhaaa18P
import Derived.Test.Ytkllbehdmlbhaaa18U
namespace Go.Proofs.Ytkllbehdmlbhaaa
open Go.RowKit
set_option linter.unusedVariables false
set_option linter.unusedSimpArgs false
set_option maxHeartbeats 1000000 in
set_option maxRecDepth 100000 in
theorem walk_CongruenceOfFilter (vH_0 : Value) (aH_x0 : List (List Int)) (vH_1 : Value) (aH_x1 : List (List Int)) (vH_2 : Value) (aH_x2 : List (List Int)) (aH_x3 : Int) (aH_x4 : Int) (aMask_x0 : Int) (r0_x0 : List Int) (r1_x0 : Int) (w : World) (hH_0 : Sl2 cI w vH_0 aH_x0) (hH_1 : Sl2 cI w vH_1 aH_x1) (hH_2 : Sl2 cI w vH_2 aH_x2) (hr0_0 : r0_x0.length ≤ 1048576)
    (HS : Hid (totI aH_x0 + totI aH_x1 + totI aH_x2 ≤ 1048576 → ∀ (W : World) (vH_0 : Value) (vH_1 : Value) (vH_2 : Value), Sl2 cI W vH_0 aH_x0 → Sl2 cI W vH_1 aH_x1 → Sl2 cI W vH_2 aH_x2 → Calls Try.prog 6 #[.agg #[vH_0, vH_1, vH_2, .int .i64 aH_x3, .int .i64 aH_x4], .int .i64 aMask_x0] W fun e w' => ∃ u0_0 : Value, e = .returned (.tuple #[u0_0, .int .i64 r1_x0]) ∧ Ob cI 2 W.heap.size w'.heap.size w' u0_0 r0_x0 ∧ Below W.heap.size W w'))
    (HI : Hid (totI aH_x0 + totI aH_x1 + totI aH_x2 ≤ 1048576 → ∀ (W : World) (vH_0 : Value) (vH_1 : Value) (vH_2 : Value), Sl2 cI W vH_0 aH_x0 → Sl2 cI W vH_1 aH_x1 → Sl2 cI W vH_2 aH_x2 → Calls Try.prog 8 #[.agg #[vH_0, vH_1, vH_2, .int .i64 aH_x3, .int .i64 aH_x4], .int .i64 aMask_x0] W fun e w' => ∃ u0_0 : Value, e = .returned (.tuple #[u0_0, .int .i64 r1_x0]) ∧ Ob cI 2 W.heap.size w'.heap.size w' u0_0 r0_x0 ∧ Below W.heap.size W w')) :
    Calls Try.prog 3 #[.agg #[vH_0, vH_1, vH_2, .int .i64 aH_x3, .int .i64 aH_x4], .int .i64 aMask_x0] w fun e w' => e = .returned (.bool true) ∧ Below w.heap.size w w' := by
  rcases Nat.lt_or_ge 1048576 (totI aH_x0 + totI aH_x1 + totI aH_x2) with q0 | q0
  · obtain ⟨vH_0_A, vH_0_c, rfl⟩ := hH_0.opn
    obtain ⟨vH_1_A, vH_1_c, rfl⟩ := hH_1.opn
    obtain ⟨vH_2_A, vH_2_c, rfl⟩ := hH_2.opn
    have hSH_0 := sumLI_tot aH_x0
    have hSH_1 := sumLI_tot aH_x1
    have hSH_2 := sumLI_tot aH_x2
    have A := Below.refl w.heap.size w
    go_enter Try.func3, Try.ntmps3
    have hb1 := below_alloc' w (.cells #[.slice vH_0_A aH_x0.length vH_0_c, .slice vH_1_A aH_x1.length vH_1_c, .slice vH_2_A aH_x2.length vH_2_c, .int .i64 aH_x3, .int .i64 aH_x4] 24)
    have y1 := size_alloc' w (.cells #[.slice vH_0_A aH_x0.length vH_0_c, .slice vH_1_A aH_x1.length vH_1_c, .slice vH_2_A aH_x2.length vH_2_c, .int .i64 aH_x3, .int .i64 aH_x4] 24)
    replace A := A.trans (hb1.mono A.size)
    have z1 := hb1.size
    have b1 := Bk.new w #[.slice vH_0_A aH_x0.length vH_0_c, .slice vH_1_A aH_x1.length vH_1_c, .slice vH_2_A aH_x2.length vH_2_c, .int .i64 aH_x3, .int .i64 aH_x4] 24
    clear hb1
    have b1s := b1.1
    have b1c := b1.2
    go_wp2_with fail
    clear b1s b1c
    refine (u_sz_Heyting _ aH_x0 _ aH_x1 _ aH_x2 aH_x3 aH_x4 _ _ (hH_0.below A) (hH_1.below A) (hH_2.below A) (by omega)).mono ?_
    rintro e w2 ⟨rfl, hb⟩
    replace b1 := b1.below hb
    replace A := A.trans (hb.mono A.size)
    have z2 := hb.size
    clear hb
    rw [szL_neg (by omega)]
    have b1s := b1.1
    have b1c := b1.2
    have BB := Lib.hid A; clear A
    go_wp2
    go_ret
    exact ⟨rfl, BB.out⟩
  have HS := Lib.hid (HS.out (by omega))
  have HI := Lib.hid (HI.out (by omega))
  obtain ⟨vH_0_A, vH_0_c, rfl⟩ := hH_0.opn
  obtain ⟨vH_1_A, vH_1_c, rfl⟩ := hH_1.opn
  obtain ⟨vH_2_A, vH_2_c, rfl⟩ := hH_2.opn
  have hSH_0 := sumLI_tot aH_x0
  have hSH_1 := sumLI_tot aH_x1
  have hSH_2 := sumLI_tot aH_x2
  have A := Below.refl w.heap.size w
  go_enter Try.func3, Try.ntmps3
  have hb1 := below_alloc' w (.cells #[.slice vH_0_A aH_x0.length vH_0_c, .slice vH_1_A aH_x1.length vH_1_c, .slice vH_2_A aH_x2.length vH_2_c, .int .i64 aH_x3, .int .i64 aH_x4] 24)
  have y1 := size_alloc' w (.cells #[.slice vH_0_A aH_x0.length vH_0_c, .slice vH_1_A aH_x1.length vH_1_c, .slice vH_2_A aH_x2.length vH_2_c, .int .i64 aH_x3, .int .i64 aH_x4] 24)
  replace A := A.trans (hb1.mono A.size)
  have z1 := hb1.size
  have b1 := Bk.new w #[.slice vH_0_A aH_x0.length vH_0_c, .slice vH_1_A aH_x1.length vH_1_c, .slice vH_2_A aH_x2.length vH_2_c, .int .i64 aH_x3, .int .i64 aH_x4] 24
  clear hb1
  have b1s := b1.1
  have b1c := b1.2
  go_wp2_with fail
  clear b1s b1c
  refine (u_sz_Heyting _ aH_x0 _ aH_x1 _ aH_x2 aH_x3 aH_x4 _ _ (hH_0.below A) (hH_1.below A) (hH_2.below A) (by omega)).mono ?_
  rintro e w2 ⟨rfl, hb⟩
  replace b1 := b1.below hb
  replace A := A.trans (hb.mono A.size)
  have z2 := hb.size
  clear hb
  rw [szL_pos (by omega)]
  have b1s := b1.1
  have b1c := b1.2
  go_wp2_with fail
  clear b1s b1c
  refine (u_to_Heyting _ aH_x0 _ aH_x1 _ aH_x2 aH_x3 aH_x4 _ (hH_0.below A) (hH_1.below A) (hH_2.below A) (by omega)).mono ?_
  rintro e w3 ⟨tH_v0, tH_v1, tH_v2, H3_, H3_1, rfl, hH3_a, hH3_b, hH3_c, o3_0, o3_1, o3_2, hb⟩
  replace b1 := b1.below hb
  replace A := A.trans (hb.mono A.size)
  have z3 := hb.size
  clear hb
  obtain ⟨tH_v0_A, tH_v0_c, rfl⟩ := o3_0.opn
  obtain ⟨tH_v1_A, tH_v1_c, rfl⟩ := o3_1.opn
  obtain ⟨tH_v2_A, tH_v2_c, rfl⟩ := o3_2.opn
  have b1s := b1.1
  have b1c := b1.2
  go_wp2_with fail
  clear b1s b1c
  refine (HS.out _ _ _ _ o3_0.sl o3_1.sl o3_2.sl).mono ?_
  rintro e w4 ⟨w0_v0, rfl, r4_w0_0, hb⟩
  replace o3_0 := o3_0.below hb
  replace o3_1 := o3_1.below hb
  replace o3_2 := o3_2.below hb
  replace b1 := b1.below hb
  replace A := A.trans (hb.mono A.size)
  have z4 := hb.size
  clear hb
  clear o3_0
  clear o3_1
  clear o3_2
  have b1s := b1.1
  have b1c := b1.2
  go_wp2_with fail
  clear b1s b1c
  refine (u_to_Heyting _ aH_x0 _ aH_x1 _ aH_x2 aH_x3 aH_x4 _ (hH_0.below A) (hH_1.below A) (hH_2.below A) (by omega)).mono ?_
  rintro e w5 ⟨xH_v0, xH_v1, xH_v2, H5_, H5_1, rfl, hH5_a, hH5_b, hH5_c, o5_0, o5_1, o5_2, hb⟩
  replace r4_w0_0 := r4_w0_0.below hb
  replace b1 := b1.below hb
  replace A := A.trans (hb.mono A.size)
  have z5 := hb.size
  clear hb
  obtain ⟨xH_v0_A, xH_v0_c, rfl⟩ := o5_0.opn
  obtain ⟨xH_v1_A, xH_v1_c, rfl⟩ := o5_1.opn
  obtain ⟨xH_v2_A, xH_v2_c, rfl⟩ := o5_2.opn
  have hb6 := below_alloc' w5 (.cells #[.slice xH_v0_A aH_x0.length xH_v0_c, .slice xH_v1_A aH_x1.length xH_v1_c, .slice xH_v2_A aH_x2.length xH_v2_c, .int .i64 aH_x3, .int .i64 aH_x4] 29)
  have y6 := size_alloc' w5 (.cells #[.slice xH_v0_A aH_x0.length xH_v0_c, .slice xH_v1_A aH_x1.length xH_v1_c, .slice xH_v2_A aH_x2.length xH_v2_c, .int .i64 aH_x3, .int .i64 aH_x4] 29)
  replace r4_w0_0 := r4_w0_0.below hb6
  replace o5_0 := o5_0.below hb6
  replace o5_1 := o5_1.below hb6
  replace o5_2 := o5_2.below hb6
  replace b1 := b1.below hb6
  replace A := A.trans (hb6.mono A.size)
  have z6 := hb6.size
  have b6 := Bk.new w5 #[.slice xH_v0_A aH_x0.length xH_v0_c, .slice xH_v1_A aH_x1.length xH_v1_c, .slice xH_v2_A aH_x2.length xH_v2_c, .int .i64 aH_x3, .int .i64 aH_x4] 29
  clear hb6
  have b1s := b1.1
  have b1c := b1.2
  have b6s := b6.1
  have b6c := b6.2
  go_wp2_with fail
  clear b1s b1c b6s b6c
  refine (HI.out _ _ _ _ o5_0.sl o5_1.sl o5_2.sl).mono ?_
  rintro e w7 ⟨g0_v0, rfl, r7_g0_0, hb⟩
  replace r4_w0_0 := r4_w0_0.below hb
  replace o5_0 := o5_0.below hb
  replace o5_1 := o5_1.below hb
  replace o5_2 := o5_2.below hb
  replace b1 := b1.below hb
  replace b6 := b6.below hb
  replace A := A.trans (hb.mono A.size)
  have z7 := hb.size
  clear hb
  have b1s := b1.1
  have b1c := b1.2
  have b6s := b6.1
  have b6c := b6.2
  go_wp2_with fail
  clear b1s b1c b6s b6c
  refine (u_eq_SI _ _ r0_x0 _ r7_g0_0.sl r4_w0_0.sl (by omega)).mono ?_
  rintro e w8 ⟨rfl, hb⟩
  replace r4_w0_0 := r4_w0_0.below hb
  replace o5_0 := o5_0.below hb
  replace o5_1 := o5_1.below hb
  replace o5_2 := o5_2.below hb
  replace r7_g0_0 := r7_g0_0.below hb
  replace b1 := b1.below hb
  replace b6 := b6.below hb
  replace A := A.trans (hb.mono A.size)
  have z8 := hb.size
  clear hb
  have b1s := b1.1
  have b1c := b1.2
  have b6s := b6.1
  have b6c := b6.2
  go_wp2_with fail
  clear b1s b1c b6s b6c
  have hq10_0 := hH_0.below A
  have hq10_1 := hH_1.below A
  have hq10_2 := hH_2.below A
  have c0 : w8.cell? ⟨w5.heap.size, 0, none⟩ = some (.slice xH_v0_A aH_x0.length xH_v0_c) := b6.2 0
  have c1 : w8.cell? ⟨w5.heap.size, 1, none⟩ = some (.slice xH_v1_A aH_x1.length xH_v1_c) := b6.2 1
  have c2 : w8.cell? ⟨w5.heap.size, 2, none⟩ = some (.slice xH_v2_A aH_x2.length xH_v2_c) := b6.2 2
  have c3 : w8.cell? ⟨w5.heap.size, 3, none⟩ = some (.int .i64 aH_x3) := b6.2 3
  have c4 : w8.cell? ⟨w5.heap.size, 4, none⟩ = some (.int .i64 aH_x4) := b6.2 4
  have d0 : w8.cell? ⟨w.heap.size, 0, none⟩ = some (.slice vH_0_A aH_x0.length vH_0_c) := b1.2 0
  have d1 : w8.cell? ⟨w.heap.size, 1, none⟩ = some (.slice vH_1_A aH_x1.length vH_1_c) := b1.2 1
  have d2 : w8.cell? ⟨w.heap.size, 2, none⟩ = some (.slice vH_2_A aH_x2.length vH_2_c) := b1.2 2
  have d3 : w8.cell? ⟨w.heap.size, 3, none⟩ = some (.int .i64 aH_x3) := b1.2 3
  have d4 : w8.cell? ⟨w.heap.size, 4, none⟩ = some (.int .i64 aH_x4) := b1.2 4
  go_region_held3 (fun w' => w'.cell? ⟨w5.heap.size, 0, none⟩ = some (.slice xH_v0_A aH_x0.length xH_v0_c) ∧ w'.cell? ⟨w5.heap.size, 1, none⟩ = some (.slice xH_v1_A aH_x1.length xH_v1_c) ∧ w'.cell? ⟨w5.heap.size, 2, none⟩ = some (.slice xH_v2_A aH_x2.length xH_v2_c) ∧ w'.cell? ⟨w5.heap.size, 3, none⟩ = some (.int .i64 aH_x3) ∧ w'.cell? ⟨w5.heap.size, 4, none⟩ = some (.int .i64 aH_x4) ∧ w'.cell? ⟨w.heap.size, 0, none⟩ = some (.slice vH_0_A aH_x0.length vH_0_c) ∧ w'.cell? ⟨w.heap.size, 1, none⟩ = some (.slice vH_1_A aH_x1.length vH_1_c) ∧ w'.cell? ⟨w.heap.size, 2, none⟩ = some (.slice vH_2_A aH_x2.length vH_2_c) ∧ w'.cell? ⟨w.heap.size, 3, none⟩ = some (.int .i64 aH_x3) ∧ w'.cell? ⟨w.heap.size, 4, none⟩ = some (.int .i64 aH_x4)) (first | exact ⟨c0'', c1'', c2'', c3'', c4'', d0'', d1'', d2'', d3'', d4''⟩ | exact ⟨c0', c1', c2', c3', c4', d0', d1', d2', d3', d4'⟩ | exact ⟨c0, c1, c2, c3, c4, d0, d1, d2, d3, d4⟩ | (simp [*]; done)) (first | (go_at_call 7; refine (u_to_Heyting _ aH_x0 _ aH_x1 _ aH_x2 aH_x3 aH_x4 _ (hq10_0.below (below_drewN (Below.refl _ _) 1)) (hq10_1.below (below_drewN (Below.refl _ _) 1)) (hq10_2.below (below_drewN (Below.refl _ _) 1)) (by omega)).mono ?_; rintro e w9 ⟨y10_0, y10_1, y10_2, Hy10_, Hy10_1, rfl, hHy10_a, hHy10_b, hHy10_c, oy10_0, oy10_1, oy10_2, hbP⟩; obtain ⟨y10_0_A, y10_0_c, rfl⟩ := oy10_0.opn; obtain ⟨y10_1_A, y10_1_c, rfl⟩ := oy10_1.opn; obtain ⟨y10_2_A, y10_2_c, rfl⟩ := oy10_2.opn; have hbP1 : Below w8.heap.size w8 w9 := (below_drewN (Below.refl _ _) 1).trans hbP; have c0' := (hbP1.cell (p := ⟨w5.heap.size, 0, none⟩) b6.1).trans c0; have c1' := (hbP1.cell (p := ⟨w5.heap.size, 1, none⟩) b6.1).trans c1; have c2' := (hbP1.cell (p := ⟨w5.heap.size, 2, none⟩) b6.1).trans c2; have c3' := (hbP1.cell (p := ⟨w5.heap.size, 3, none⟩) b6.1).trans c3; have c4' := (hbP1.cell (p := ⟨w5.heap.size, 4, none⟩) b6.1).trans c4; have d0' := (hbP1.cell (p := ⟨w.heap.size, 0, none⟩) b1.1).trans d0; have d1' := (hbP1.cell (p := ⟨w.heap.size, 1, none⟩) b1.1).trans d1; have d2' := (hbP1.cell (p := ⟨w.heap.size, 2, none⟩) b1.1).trans d2; have d3' := (hbP1.cell (p := ⟨w.heap.size, 3, none⟩) b1.1).trans d3; have d4' := (hbP1.cell (p := ⟨w.heap.size, 4, none⟩) b1.1).trans d4) | (go_at_call 10; refine (u_eq_Heyting _ _ aH_x0 _ _ aH_x1 _ _ aH_x2 aH_x3 aH_x4 _ (o5_0.below hbP1).sl (o5_1.below hbP1).sl (o5_2.below hbP1).sl oy10_0.sl oy10_1.sl oy10_2.sl (by omega)).mono ?_; rintro e w10 ⟨rfl, hbQ⟩; have c0'' := (hbQ.cell (p := ⟨w5.heap.size, 0, none⟩) (b6.below hbP1).1).trans c0'; have c1'' := (hbQ.cell (p := ⟨w5.heap.size, 1, none⟩) (b6.below hbP1).1).trans c1'; have c2'' := (hbQ.cell (p := ⟨w5.heap.size, 2, none⟩) (b6.below hbP1).1).trans c2'; have c3'' := (hbQ.cell (p := ⟨w5.heap.size, 3, none⟩) (b6.below hbP1).1).trans c3'; have c4'' := (hbQ.cell (p := ⟨w5.heap.size, 4, none⟩) (b6.below hbP1).1).trans c4'; have d0'' := (hbQ.cell (p := ⟨w.heap.size, 0, none⟩) (b1.below hbP1).1).trans d0'; have d1'' := (hbQ.cell (p := ⟨w.heap.size, 1, none⟩) (b1.below hbP1).1).trans d1'; have d2'' := (hbQ.cell (p := ⟨w.heap.size, 2, none⟩) (b1.below hbP1).1).trans d2'; have d3'' := (hbQ.cell (p := ⟨w.heap.size, 3, none⟩) (b1.below hbP1).1).trans d3'; have d4'' := (hbQ.cell (p := ⟨w.heap.size, 4, none⟩) (b1.below hbP1).1).trans d4'))
  have hb := bthen hbP1 hbQ
  clear c0'' c0' c0 c1'' c1' c1 c2'' c2' c2 c3'' c3' c3 c4'' c4' c4 d0'' d0' d0 d1'' d1' d1 d2'' d2' d2 d3'' d3' d3 d4'' d4' d4
  clear hbP hbQ hbP1 oy10_0 oy10_1 oy10_2
  clear hq10_0
  clear hq10_1
  clear hq10_2
  replace r4_w0_0 := r4_w0_0.below hb
  replace o5_0 := o5_0.below hb
  replace o5_1 := o5_1.below hb
  replace o5_2 := o5_2.below hb
  replace r7_g0_0 := r7_g0_0.below hb
  replace b1 := b1.below hb
  replace b6 := b6.below hb
  replace A := A.trans (hb.mono A.size)
  have z10 := hb.size
  clear hb
  have b1s := b1.1
  have b1c := b1.2
  have b6s := b6.1
  have b6c := b6.2
  go_wp2_with fail
  clear b1s b1c b6s b6c
  refine (u_mark_Heyting _ aH_x0 _ aH_x1 _ aH_x2 aH_x3 aH_x4 _ _ _ _ _ _ o5_0 o5_1 o5_2 (by omega) (by omega) (by omega)).mono ?_
  rintro e w11 ⟨rfl, no5_0, no5_1, no5_2, hk⟩
  replace r4_w0_0 := r4_w0_0.keep hk (by omega)
  replace r7_g0_0 := r7_g0_0.keep hk (by omega)
  clear o5_0; have o5_0 := no5_0; clear no5_0
  clear o5_1; have o5_1 := no5_1; clear no5_1
  clear o5_2; have o5_2 := no5_2; clear no5_2
  replace b1 := b1.keep hk (by omega)
  replace b6 := b6.keep hk (by omega)
  replace A := below_keep A hk (by omega) A.size
  have z11 := hk.size
  clear hk
  have b1s := b1.1
  have b1c := b1.2
  have b6s := b6.1
  have b6c := b6.2
  go_wp2_with fail
  clear b1s b1c b6s b6c
  refine (u_eq_SI _ _ r0_x0 _ r7_g0_0.sl r4_w0_0.sl (by omega)).mono ?_
  rintro e w12 ⟨rfl, hb⟩
  replace r4_w0_0 := r4_w0_0.below hb
  replace o5_0 := o5_0.below hb
  replace o5_1 := o5_1.below hb
  replace o5_2 := o5_2.below hb
  replace r7_g0_0 := r7_g0_0.below hb
  replace b1 := b1.below hb
  replace b6 := b6.below hb
  replace A := A.trans (hb.mono A.size)
  have z12 := hb.size
  clear hb
  clear o5_0
  clear o5_1
  clear o5_2
  have b1s := b1.1
  have b1c := b1.2
  have b6s := b6.1
  have b6c := b6.2
  go_wp2_with fail
  clear b1s b1c b6s b6c
  refine (u_mark_SI _ r0_x0 _ _ _ _ r7_g0_0 (by omega) (by omega)).mono ?_
  rintro e w13 ⟨rfl, nr7_g0_0, hk⟩
  replace r4_w0_0 := r4_w0_0.keep hk (by omega)
  clear r7_g0_0; have r7_g0_0 := nr7_g0_0; clear nr7_g0_0
  replace b1 := b1.keep hk (by omega)
  replace b6 := b6.keep hk (by omega)
  replace A := below_keep A hk (by omega) A.size
  have z13 := hk.size
  clear hk
  have b1s := b1.1
  have b1c := b1.2
  have b6s := b6.1
  have b6c := b6.2
  go_wp2_with fail
  clear b1s b1c b6s b6c
  refine (u_held_SI _ r0_x0.length _ _ r7_g0_0.sl (by omega) (by omega)).mono ?_
  rintro e w14 ⟨rfl, hb⟩
  replace r4_w0_0 := r4_w0_0.below hb
  replace r7_g0_0 := r7_g0_0.below hb
  replace b1 := b1.below hb
  replace b6 := b6.below hb
  replace A := A.trans (hb.mono A.size)
  have z14 := hb.size
  clear hb
  have b1s := b1.1
  have b1c := b1.2
  have b6s := b6.1
  have b6c := b6.2
  go_wp2_with fail
  clear b1s b1c b6s b6c
  refine (u_to_Heyting _ aH_x0 _ aH_x1 _ aH_x2 aH_x3 aH_x4 _ (hH_0.below A) (hH_1.below A) (hH_2.below A) (by omega)).mono ?_
  rintro e w15 ⟨sH_v0, sH_v1, sH_v2, H15_, H15_1, rfl, hH15_a, hH15_b, hH15_c, o15_0, o15_1, o15_2, hb⟩
  replace r4_w0_0 := r4_w0_0.below hb
  replace r7_g0_0 := r7_g0_0.below hb
  replace b1 := b1.below hb
  replace b6 := b6.below hb
  replace A := A.trans (hb.mono A.size)
  have z15 := hb.size
  clear hb
  obtain ⟨sH_v0_A, sH_v0_c, rfl⟩ := o15_0.opn
  obtain ⟨sH_v1_A, sH_v1_c, rfl⟩ := o15_1.opn
  obtain ⟨sH_v2_A, sH_v2_c, rfl⟩ := o15_2.opn
  have b1s := b1.1
  have b1c := b1.2
  have b6s := b6.1
  have b6c := b6.2
  go_wp2_with fail
  clear b1s b1c b6s b6c
  refine (HI.out _ _ _ _ o15_0.sl o15_1.sl o15_2.sl).mono ?_
  rintro e w16 ⟨h0_v0, rfl, r16_h0_0, hb⟩
  replace r4_w0_0 := r4_w0_0.below hb
  replace r7_g0_0 := r7_g0_0.below hb
  replace o15_0 := o15_0.below hb
  replace o15_1 := o15_1.below hb
  replace o15_2 := o15_2.below hb
  replace b1 := b1.below hb
  replace b6 := b6.below hb
  replace A := A.trans (hb.mono A.size)
  have z16 := hb.size
  clear hb
  clear o15_0
  clear o15_1
  clear o15_2
  have b1s := b1.1
  have b1c := b1.2
  have b6s := b6.1
  have b6c := b6.2
  go_wp2_with fail
  clear b1s b1c b6s b6c
  refine (u_eq_SI _ _ r0_x0 _ r16_h0_0.sl r4_w0_0.sl (by omega)).mono ?_
  rintro e w17 ⟨rfl, hb⟩
  replace r4_w0_0 := r4_w0_0.below hb
  replace r7_g0_0 := r7_g0_0.below hb
  replace r16_h0_0 := r16_h0_0.below hb
  replace b1 := b1.below hb
  replace b6 := b6.below hb
  replace A := A.trans (hb.mono A.size)
  have z17 := hb.size
  clear hb
  have b1s := b1.1
  have b1c := b1.2
  have b6s := b6.1
  have b6c := b6.2
  go_wp2_with fail
  clear b1s b1c b6s b6c
  refine (u_held_SI _ r0_x0.length _ _ r7_g0_0.sl (by omega) (by omega)).mono ?_
  rintro e w18 ⟨rfl, hb⟩
  replace r4_w0_0 := r4_w0_0.below hb
  replace r7_g0_0 := r7_g0_0.below hb
  replace r16_h0_0 := r16_h0_0.below hb
  replace b1 := b1.below hb
  replace b6 := b6.below hb
  replace A := A.trans (hb.mono A.size)
  have z18 := hb.size
  clear hb
  have b1s := b1.1
  have b1c := b1.2
  have b6s := b6.1
  have b6c := b6.2
  have BB := Lib.hid A; clear A
  clear r4_w0_0 r7_g0_0 r16_h0_0
  go_wp2
  go_ret
  exact ⟨rfl, BB.out⟩
theorem szT_of {X : List (List Int)} (h : totI X ≤ 1048576) : SzT X := by
  have hT : totI X = X.length + sumLI X := rfl
  refine ⟨by omega, fun r hr => ?_⟩
  obtain ⟨i, hi, rfl⟩ := List.mem_iff_getElem.1 hr
  have := sumLI_get X i hi
  omega
theorem final_CongruenceOfFilter (v0 : Value) (A : List (List Int)) (v1 : Value) (O : List (List Int)) (v2 : Value) (I : List (List Int)) (b t m : Int) (w : World) (h0 : Sl2 cI w v0 A) (h1 : Sl2 cI w v1 O) (h2 : Sl2 cI w v2 I) :
    Calls Try.prog 3 #[.agg #[v0, v1, v2, .int .i64 b, .int .i64 t], .int .i64 m] w fun e w' => e = .returned (.bool true) ∧ Below w.heap.size w w' := by
  have hl : (cgL A O I b t m).length ≤ 1048576 := by
    unfold cgL
    split
    · next h =>
      obtain ⟨A1, O1, I1, b1, t1, m1, rfl, -, -, -, -, -, -, hT, -⟩ := fcd_0 h
      have := hT.n30
      rw [li_length, ccl_length, lil_length]; omega
    · exact Nat.zero_le _
  exact walk_CongruenceOfFilter v0 A v1 O v2 I b t m (cgL A O I b t m) (fcd A O I b t m) w h0 h1 h2 hl
    (Lib.hid fun l W a o i ha ho hi => spec_CongruenceOfFilter a o i b t m A O I W ⟨ha, ho, hi⟩ ⟨szT_of (by omega), szT_of (by omega), szT_of (by omega)⟩)
    (Lib.hid fun l W a o i ha ho hi => impl_CongruenceOfFilter a o i b t m A O I W ⟨ha, ho, hi⟩ ⟨szT_of (by omega), szT_of (by omega), szT_of (by omega)⟩)
end Go.Proofs.Ytkllbehdmlbhaaa

/- The walk of the law FnExactQuotientAlgebra, written by program: it returns true and writes nothing that was there. -/
import Derived.Test.YtkllbehdmlbhaaaLB
import Derived.Test.YtkllbehdmlbhaaaHN
import Derived.Test.YtkllbehdmlbhaaaHY
namespace Go.Proofs.Ytkllbehdmlbhaaa
open Go.RowKit
set_option linter.unusedVariables false
set_option linter.unusedSimpArgs false
set_option maxHeartbeats 1000000 in
set_option maxRecDepth 100000 in
theorem walk_QuotientAlgebra (vH_0 : Value) (aH_x0 : List (List Int)) (vH_1 : Value) (aH_x1 : List (List Int)) (vH_2 : Value) (aH_x2 : List (List Int)) (aH_x3 : Int) (aH_x4 : Int) (aMask_x0 : Int) (r0_x0 : List (List Int)) (r0_x1 : List (List Int)) (r0_x2 : List (List Int)) (r0_x3 : Int) (r0_x4 : Int) (r1_x0 : Int) (w : World) (hH_0 : Sl2 cI w vH_0 aH_x0) (hH_1 : Sl2 cI w vH_1 aH_x1) (hH_2 : Sl2 cI w vH_2 aH_x2) (hr0_0 : totI r0_x0 ≤ 1048576) (hr0_1 : totI r0_x1 ≤ 1048576) (hr0_2 : totI r0_x2 ≤ 1048576)
    (HS : Hid (totI aH_x0 + totI aH_x1 + totI aH_x2 ≤ 1048576 → ∀ (W : World) (vH_0 : Value) (vH_1 : Value) (vH_2 : Value), Sl2 cI W vH_0 aH_x0 → Sl2 cI W vH_1 aH_x1 → Sl2 cI W vH_2 aH_x2 → Calls Try.prog 14 #[.agg #[vH_0, vH_1, vH_2, .int .i64 aH_x3, .int .i64 aH_x4], .int .i64 aMask_x0] W fun e w' => ∃ u0_0 u0_1 u0_2 : Value, e = .returned (.tuple #[.agg #[u0_0, u0_1, u0_2, .int .i64 r0_x3, .int .i64 r0_x4], .int .i64 r1_x0]) ∧ ObS W.heap.size w'.heap.size w' u0_0 r0_x0 ∧ ObS W.heap.size w'.heap.size w' u0_1 r0_x1 ∧ ObS W.heap.size w'.heap.size w' u0_2 r0_x2 ∧ Below W.heap.size W w'))
    (HI : Hid (totI aH_x0 + totI aH_x1 + totI aH_x2 ≤ 1048576 → ∀ (W : World) (vH_0 : Value) (vH_1 : Value) (vH_2 : Value), Sl2 cI W vH_0 aH_x0 → Sl2 cI W vH_1 aH_x1 → Sl2 cI W vH_2 aH_x2 → Calls Try.prog 15 #[.agg #[vH_0, vH_1, vH_2, .int .i64 aH_x3, .int .i64 aH_x4], .int .i64 aMask_x0] W fun e w' => ∃ u0_0 u0_1 u0_2 : Value, ∃ Hr0 Hr0_ : Nat, e = .returned (.tuple #[.agg #[u0_0, u0_1, u0_2, .int .i64 r0_x3, .int .i64 r0_x4], .int .i64 r1_x0]) ∧ W.heap.size ≤ Hr0 ∧ Hr0 ≤ Hr0_ ∧ Hr0_ ≤ w'.heap.size ∧ ObS W.heap.size Hr0 w' u0_0 r0_x0 ∧ ObS Hr0 Hr0_ w' u0_1 r0_x1 ∧ ObS Hr0_ w'.heap.size w' u0_2 r0_x2 ∧ Below W.heap.size W w')) :
    Calls Try.prog 4 #[.agg #[vH_0, vH_1, vH_2, .int .i64 aH_x3, .int .i64 aH_x4], .int .i64 aMask_x0] w fun e w' => e = .returned (.bool true) ∧ Below w.heap.size w w' := by
  rcases Nat.lt_or_ge 1048576 (totI aH_x0 + totI aH_x1 + totI aH_x2) with q0 | q0
  · obtain ⟨vH_0_A, vH_0_c, rfl⟩ := hH_0.opn
    obtain ⟨vH_1_A, vH_1_c, rfl⟩ := hH_1.opn
    obtain ⟨vH_2_A, vH_2_c, rfl⟩ := hH_2.opn
    have hSH_0 := sumLI_tot aH_x0
    have hSH_1 := sumLI_tot aH_x1
    have hSH_2 := sumLI_tot aH_x2
    have hSr0_0 := sumLI_tot r0_x0
    have hSr0_1 := sumLI_tot r0_x1
    have hSr0_2 := sumLI_tot r0_x2
    have A := Below.refl w.heap.size w
    go_enter Try.func4, Try.ntmps4
    have hb1 := below_alloc' w (.cells #[.slice vH_0_A aH_x0.length vH_0_c, .slice vH_1_A aH_x1.length vH_1_c, .slice vH_2_A aH_x2.length vH_2_c, .int .i64 aH_x3, .int .i64 aH_x4] 24)
    have y1 := size_alloc' w (.cells #[.slice vH_0_A aH_x0.length vH_0_c, .slice vH_1_A aH_x1.length vH_1_c, .slice vH_2_A aH_x2.length vH_2_c, .int .i64 aH_x3, .int .i64 aH_x4] 24)
    replace A := A.trans (hb1.mono A.size)
    have z1 := hb1.size
    have b1 := Bk.new w #[.slice vH_0_A aH_x0.length vH_0_c, .slice vH_1_A aH_x1.length vH_1_c, .slice vH_2_A aH_x2.length vH_2_c, .int .i64 aH_x3, .int .i64 aH_x4] 24
    clear hb1
    have b1s := b1.1
    have b1c := b1.2
    go_wp2_with fail
    clear b1s b1c
    refine (u_sz_Heyting _ aH_x0 _ aH_x1 _ aH_x2 aH_x3 aH_x4 _ _ (hH_0.below A) (hH_1.below A) (hH_2.below A) (by omega)).mono ?_
    rintro e w2 ⟨rfl, hb⟩
    replace b1 := b1.below hb
    replace A := A.trans (hb.mono A.size)
    have z2 := hb.size
    clear hb
    rw [szL_neg (by omega)]
    have b1s := b1.1
    have b1c := b1.2
    have BB := Lib.hid A; clear A
    go_wp2
    go_ret
    exact ⟨rfl, BB.out⟩
  have HS := Lib.hid (HS.out (by omega))
  have HI := Lib.hid (HI.out (by omega))
  obtain ⟨vH_0_A, vH_0_c, rfl⟩ := hH_0.opn
  obtain ⟨vH_1_A, vH_1_c, rfl⟩ := hH_1.opn
  obtain ⟨vH_2_A, vH_2_c, rfl⟩ := hH_2.opn
  have hSH_0 := sumLI_tot aH_x0
  have hSH_1 := sumLI_tot aH_x1
  have hSH_2 := sumLI_tot aH_x2
  have hSr0_0 := sumLI_tot r0_x0
  have hSr0_1 := sumLI_tot r0_x1
  have hSr0_2 := sumLI_tot r0_x2
  have A := Below.refl w.heap.size w
  go_enter Try.func4, Try.ntmps4
  have hb1 := below_alloc' w (.cells #[.slice vH_0_A aH_x0.length vH_0_c, .slice vH_1_A aH_x1.length vH_1_c, .slice vH_2_A aH_x2.length vH_2_c, .int .i64 aH_x3, .int .i64 aH_x4] 24)
  have y1 := size_alloc' w (.cells #[.slice vH_0_A aH_x0.length vH_0_c, .slice vH_1_A aH_x1.length vH_1_c, .slice vH_2_A aH_x2.length vH_2_c, .int .i64 aH_x3, .int .i64 aH_x4] 24)
  replace A := A.trans (hb1.mono A.size)
  have z1 := hb1.size
  have b1 := Bk.new w #[.slice vH_0_A aH_x0.length vH_0_c, .slice vH_1_A aH_x1.length vH_1_c, .slice vH_2_A aH_x2.length vH_2_c, .int .i64 aH_x3, .int .i64 aH_x4] 24
  clear hb1
  have b1s := b1.1
  have b1c := b1.2
  go_wp2_with fail
  clear b1s b1c
  refine (u_sz_Heyting _ aH_x0 _ aH_x1 _ aH_x2 aH_x3 aH_x4 _ _ (hH_0.below A) (hH_1.below A) (hH_2.below A) (by omega)).mono ?_
  rintro e w2 ⟨rfl, hb⟩
  replace b1 := b1.below hb
  replace A := A.trans (hb.mono A.size)
  have z2 := hb.size
  clear hb
  rw [szL_pos (by omega)]
  have b1s := b1.1
  have b1c := b1.2
  go_wp2_with fail
  clear b1s b1c
  refine (u_to_Heyting _ aH_x0 _ aH_x1 _ aH_x2 aH_x3 aH_x4 _ (hH_0.below A) (hH_1.below A) (hH_2.below A) (by omega)).mono ?_
  rintro e w3 ⟨tH_v0, tH_v1, tH_v2, H3_, H3_1, rfl, hH3_a, hH3_b, hH3_c, o3_0, o3_1, o3_2, hb⟩
  replace b1 := b1.below hb
  replace A := A.trans (hb.mono A.size)
  have z3 := hb.size
  clear hb
  obtain ⟨tH_v0_A, tH_v0_c, rfl⟩ := o3_0.opn
  obtain ⟨tH_v1_A, tH_v1_c, rfl⟩ := o3_1.opn
  obtain ⟨tH_v2_A, tH_v2_c, rfl⟩ := o3_2.opn
  have b1s := b1.1
  have b1c := b1.2
  go_wp2_with fail
  clear b1s b1c
  refine (HS.out _ _ _ _ o3_0.sl o3_1.sl o3_2.sl).mono ?_
  rintro e w4 ⟨w0_v0, w0_v1, w0_v2, rfl, r4_w0_0, r4_w0_1, r4_w0_2, hb⟩
  replace o3_0 := o3_0.below hb
  replace o3_1 := o3_1.below hb
  replace o3_2 := o3_2.below hb
  replace b1 := b1.below hb
  replace A := A.trans (hb.mono A.size)
  have z4 := hb.size
  clear hb
  obtain ⟨w0_v0_A, w0_v0_c, rfl⟩ := r4_w0_0.opn
  obtain ⟨w0_v1_A, w0_v1_c, rfl⟩ := r4_w0_1.opn
  obtain ⟨w0_v2_A, w0_v2_c, rfl⟩ := r4_w0_2.opn
  clear o3_0
  clear o3_1
  clear o3_2
  have hb5 := below_alloc' w4 (.cells #[.slice w0_v0_A r0_x0.length w0_v0_c, .slice w0_v1_A r0_x1.length w0_v1_c, .slice w0_v2_A r0_x2.length w0_v2_c, .int .i64 r0_x3, .int .i64 r0_x4] 29)
  have y5 := size_alloc' w4 (.cells #[.slice w0_v0_A r0_x0.length w0_v0_c, .slice w0_v1_A r0_x1.length w0_v1_c, .slice w0_v2_A r0_x2.length w0_v2_c, .int .i64 r0_x3, .int .i64 r0_x4] 29)
  replace r4_w0_0 := r4_w0_0.below hb5
  replace r4_w0_1 := r4_w0_1.below hb5
  replace r4_w0_2 := r4_w0_2.below hb5
  replace b1 := b1.below hb5
  replace A := A.trans (hb5.mono A.size)
  have z5 := hb5.size
  have b5 := Bk.new w4 #[.slice w0_v0_A r0_x0.length w0_v0_c, .slice w0_v1_A r0_x1.length w0_v1_c, .slice w0_v2_A r0_x2.length w0_v2_c, .int .i64 r0_x3, .int .i64 r0_x4] 29
  clear hb5
  have b1s := b1.1
  have b1c := b1.2
  have b5s := b5.1
  have b5c := b5.2
  go_wp2_with fail
  clear b1s b1c b5s b5c
  refine (u_to_Heyting _ aH_x0 _ aH_x1 _ aH_x2 aH_x3 aH_x4 _ (hH_0.below A) (hH_1.below A) (hH_2.below A) (by omega)).mono ?_
  rintro e w6 ⟨xH_v0, xH_v1, xH_v2, H6_, H6_1, rfl, hH6_a, hH6_b, hH6_c, o6_0, o6_1, o6_2, hb⟩
  replace r4_w0_0 := r4_w0_0.below hb
  replace r4_w0_1 := r4_w0_1.below hb
  replace r4_w0_2 := r4_w0_2.below hb
  replace b1 := b1.below hb
  replace b5 := b5.below hb
  replace A := A.trans (hb.mono A.size)
  have z6 := hb.size
  clear hb
  obtain ⟨xH_v0_A, xH_v0_c, rfl⟩ := o6_0.opn
  obtain ⟨xH_v1_A, xH_v1_c, rfl⟩ := o6_1.opn
  obtain ⟨xH_v2_A, xH_v2_c, rfl⟩ := o6_2.opn
  have hb7 := below_alloc' w6 (.cells #[.slice xH_v0_A aH_x0.length xH_v0_c, .slice xH_v1_A aH_x1.length xH_v1_c, .slice xH_v2_A aH_x2.length xH_v2_c, .int .i64 aH_x3, .int .i64 aH_x4] 29)
  have y7 := size_alloc' w6 (.cells #[.slice xH_v0_A aH_x0.length xH_v0_c, .slice xH_v1_A aH_x1.length xH_v1_c, .slice xH_v2_A aH_x2.length xH_v2_c, .int .i64 aH_x3, .int .i64 aH_x4] 29)
  replace r4_w0_0 := r4_w0_0.below hb7
  replace r4_w0_1 := r4_w0_1.below hb7
  replace r4_w0_2 := r4_w0_2.below hb7
  replace o6_0 := o6_0.below hb7
  replace o6_1 := o6_1.below hb7
  replace o6_2 := o6_2.below hb7
  replace b1 := b1.below hb7
  replace b5 := b5.below hb7
  replace A := A.trans (hb7.mono A.size)
  have z7 := hb7.size
  have b7 := Bk.new w6 #[.slice xH_v0_A aH_x0.length xH_v0_c, .slice xH_v1_A aH_x1.length xH_v1_c, .slice xH_v2_A aH_x2.length xH_v2_c, .int .i64 aH_x3, .int .i64 aH_x4] 29
  clear hb7
  have b1s := b1.1
  have b1c := b1.2
  have b5s := b5.1
  have b5c := b5.2
  have b7s := b7.1
  have b7c := b7.2
  go_wp2_with fail
  clear b1s b1c b5s b5c b7s b7c
  refine (HI.out _ _ _ _ o6_0.sl o6_1.sl o6_2.sl).mono ?_
  rintro e w8 ⟨g0_v0, g0_v1, g0_v2, H8_g0, H8_g02, rfl, hH8_g0_a, hH8_g0_b, hH8_g0_c, r8_g0_0, r8_g0_1, r8_g0_2, hb⟩
  replace r4_w0_0 := r4_w0_0.below hb
  replace r4_w0_1 := r4_w0_1.below hb
  replace r4_w0_2 := r4_w0_2.below hb
  replace o6_0 := o6_0.below hb
  replace o6_1 := o6_1.below hb
  replace o6_2 := o6_2.below hb
  replace b1 := b1.below hb
  replace b5 := b5.below hb
  replace b7 := b7.below hb
  replace A := A.trans (hb.mono A.size)
  have z8 := hb.size
  clear hb
  obtain ⟨g0_v0_A, g0_v0_c, rfl⟩ := r8_g0_0.opn
  obtain ⟨g0_v1_A, g0_v1_c, rfl⟩ := r8_g0_1.opn
  obtain ⟨g0_v2_A, g0_v2_c, rfl⟩ := r8_g0_2.opn
  have hb9 := below_alloc' w8 (.cells #[.slice g0_v0_A r0_x0.length g0_v0_c, .slice g0_v1_A r0_x1.length g0_v1_c, .slice g0_v2_A r0_x2.length g0_v2_c, .int .i64 r0_x3, .int .i64 r0_x4] 29)
  have y9 := size_alloc' w8 (.cells #[.slice g0_v0_A r0_x0.length g0_v0_c, .slice g0_v1_A r0_x1.length g0_v1_c, .slice g0_v2_A r0_x2.length g0_v2_c, .int .i64 r0_x3, .int .i64 r0_x4] 29)
  replace r4_w0_0 := r4_w0_0.below hb9
  replace r4_w0_1 := r4_w0_1.below hb9
  replace r4_w0_2 := r4_w0_2.below hb9
  replace o6_0 := o6_0.below hb9
  replace o6_1 := o6_1.below hb9
  replace o6_2 := o6_2.below hb9
  replace r8_g0_0 := r8_g0_0.below hb9
  replace r8_g0_1 := r8_g0_1.below hb9
  replace r8_g0_2 := r8_g0_2.below hb9
  replace b1 := b1.below hb9
  replace b5 := b5.below hb9
  replace b7 := b7.below hb9
  replace A := A.trans (hb9.mono A.size)
  have z9 := hb9.size
  have b9 := Bk.new w8 #[.slice g0_v0_A r0_x0.length g0_v0_c, .slice g0_v1_A r0_x1.length g0_v1_c, .slice g0_v2_A r0_x2.length g0_v2_c, .int .i64 r0_x3, .int .i64 r0_x4] 29
  clear hb9
  have b1s := b1.1
  have b1c := b1.2
  have b5s := b5.1
  have b5c := b5.2
  have b7s := b7.1
  have b7c := b7.2
  have b9s := b9.1
  have b9c := b9.2
  go_wp2_with fail
  clear b1s b1c b5s b5c b7s b7c b9s b9c
  refine (u_eq_Heyting _ _ r0_x0 _ _ r0_x1 _ _ r0_x2 r0_x3 r0_x4 _ r8_g0_0.sl r8_g0_1.sl r8_g0_2.sl r4_w0_0.sl r4_w0_1.sl r4_w0_2.sl (by omega)).mono ?_
  rintro e w10 ⟨rfl, hb⟩
  replace r4_w0_0 := r4_w0_0.below hb
  replace r4_w0_1 := r4_w0_1.below hb
  replace r4_w0_2 := r4_w0_2.below hb
  replace o6_0 := o6_0.below hb
  replace o6_1 := o6_1.below hb
  replace o6_2 := o6_2.below hb
  replace r8_g0_0 := r8_g0_0.below hb
  replace r8_g0_1 := r8_g0_1.below hb
  replace r8_g0_2 := r8_g0_2.below hb
  replace b1 := b1.below hb
  replace b5 := b5.below hb
  replace b7 := b7.below hb
  replace b9 := b9.below hb
  replace A := A.trans (hb.mono A.size)
  have z10 := hb.size
  clear hb
  have b1s := b1.1
  have b1c := b1.2
  have b5s := b5.1
  have b5c := b5.2
  have b7s := b7.1
  have b7c := b7.2
  have b9s := b9.1
  have b9c := b9.2
  go_wp2_with fail
  clear b1s b1c b5s b5c b7s b7c b9s b9c
  have hq12_0 := hH_0.below A
  have hq12_1 := hH_1.below A
  have hq12_2 := hH_2.below A
  have c0 : w10.cell? ⟨w6.heap.size, 0, none⟩ = some (.slice xH_v0_A aH_x0.length xH_v0_c) := b7.2 0
  have c1 : w10.cell? ⟨w6.heap.size, 1, none⟩ = some (.slice xH_v1_A aH_x1.length xH_v1_c) := b7.2 1
  have c2 : w10.cell? ⟨w6.heap.size, 2, none⟩ = some (.slice xH_v2_A aH_x2.length xH_v2_c) := b7.2 2
  have c3 : w10.cell? ⟨w6.heap.size, 3, none⟩ = some (.int .i64 aH_x3) := b7.2 3
  have c4 : w10.cell? ⟨w6.heap.size, 4, none⟩ = some (.int .i64 aH_x4) := b7.2 4
  have d0 : w10.cell? ⟨w.heap.size, 0, none⟩ = some (.slice vH_0_A aH_x0.length vH_0_c) := b1.2 0
  have d1 : w10.cell? ⟨w.heap.size, 1, none⟩ = some (.slice vH_1_A aH_x1.length vH_1_c) := b1.2 1
  have d2 : w10.cell? ⟨w.heap.size, 2, none⟩ = some (.slice vH_2_A aH_x2.length vH_2_c) := b1.2 2
  have d3 : w10.cell? ⟨w.heap.size, 3, none⟩ = some (.int .i64 aH_x3) := b1.2 3
  have d4 : w10.cell? ⟨w.heap.size, 4, none⟩ = some (.int .i64 aH_x4) := b1.2 4
  go_region_held3 (fun w' => w'.cell? ⟨w6.heap.size, 0, none⟩ = some (.slice xH_v0_A aH_x0.length xH_v0_c) ∧ w'.cell? ⟨w6.heap.size, 1, none⟩ = some (.slice xH_v1_A aH_x1.length xH_v1_c) ∧ w'.cell? ⟨w6.heap.size, 2, none⟩ = some (.slice xH_v2_A aH_x2.length xH_v2_c) ∧ w'.cell? ⟨w6.heap.size, 3, none⟩ = some (.int .i64 aH_x3) ∧ w'.cell? ⟨w6.heap.size, 4, none⟩ = some (.int .i64 aH_x4) ∧ w'.cell? ⟨w.heap.size, 0, none⟩ = some (.slice vH_0_A aH_x0.length vH_0_c) ∧ w'.cell? ⟨w.heap.size, 1, none⟩ = some (.slice vH_1_A aH_x1.length vH_1_c) ∧ w'.cell? ⟨w.heap.size, 2, none⟩ = some (.slice vH_2_A aH_x2.length vH_2_c) ∧ w'.cell? ⟨w.heap.size, 3, none⟩ = some (.int .i64 aH_x3) ∧ w'.cell? ⟨w.heap.size, 4, none⟩ = some (.int .i64 aH_x4)) (first | exact ⟨c0'', c1'', c2'', c3'', c4'', d0'', d1'', d2'', d3'', d4''⟩ | exact ⟨c0', c1', c2', c3', c4', d0', d1', d2', d3', d4'⟩ | exact ⟨c0, c1, c2, c3, c4, d0, d1, d2, d3, d4⟩ | (simp [*]; done)) (first | (go_at_call 7; refine (u_to_Heyting _ aH_x0 _ aH_x1 _ aH_x2 aH_x3 aH_x4 _ (hq12_0.below (below_drewN (Below.refl _ _) 1)) (hq12_1.below (below_drewN (Below.refl _ _) 1)) (hq12_2.below (below_drewN (Below.refl _ _) 1)) (by omega)).mono ?_; rintro e w11 ⟨y12_0, y12_1, y12_2, Hy12_, Hy12_1, rfl, hHy12_a, hHy12_b, hHy12_c, oy12_0, oy12_1, oy12_2, hbP⟩; obtain ⟨y12_0_A, y12_0_c, rfl⟩ := oy12_0.opn; obtain ⟨y12_1_A, y12_1_c, rfl⟩ := oy12_1.opn; obtain ⟨y12_2_A, y12_2_c, rfl⟩ := oy12_2.opn; have hbP1 : Below w10.heap.size w10 w11 := (below_drewN (Below.refl _ _) 1).trans hbP; have c0' := (hbP1.cell (p := ⟨w6.heap.size, 0, none⟩) b7.1).trans c0; have c1' := (hbP1.cell (p := ⟨w6.heap.size, 1, none⟩) b7.1).trans c1; have c2' := (hbP1.cell (p := ⟨w6.heap.size, 2, none⟩) b7.1).trans c2; have c3' := (hbP1.cell (p := ⟨w6.heap.size, 3, none⟩) b7.1).trans c3; have c4' := (hbP1.cell (p := ⟨w6.heap.size, 4, none⟩) b7.1).trans c4; have d0' := (hbP1.cell (p := ⟨w.heap.size, 0, none⟩) b1.1).trans d0; have d1' := (hbP1.cell (p := ⟨w.heap.size, 1, none⟩) b1.1).trans d1; have d2' := (hbP1.cell (p := ⟨w.heap.size, 2, none⟩) b1.1).trans d2; have d3' := (hbP1.cell (p := ⟨w.heap.size, 3, none⟩) b1.1).trans d3; have d4' := (hbP1.cell (p := ⟨w.heap.size, 4, none⟩) b1.1).trans d4) | (go_at_call 10; refine (u_eq_Heyting _ _ aH_x0 _ _ aH_x1 _ _ aH_x2 aH_x3 aH_x4 _ (o6_0.below hbP1).sl (o6_1.below hbP1).sl (o6_2.below hbP1).sl oy12_0.sl oy12_1.sl oy12_2.sl (by omega)).mono ?_; rintro e w12 ⟨rfl, hbQ⟩; have c0'' := (hbQ.cell (p := ⟨w6.heap.size, 0, none⟩) (b7.below hbP1).1).trans c0'; have c1'' := (hbQ.cell (p := ⟨w6.heap.size, 1, none⟩) (b7.below hbP1).1).trans c1'; have c2'' := (hbQ.cell (p := ⟨w6.heap.size, 2, none⟩) (b7.below hbP1).1).trans c2'; have c3'' := (hbQ.cell (p := ⟨w6.heap.size, 3, none⟩) (b7.below hbP1).1).trans c3'; have c4'' := (hbQ.cell (p := ⟨w6.heap.size, 4, none⟩) (b7.below hbP1).1).trans c4'; have d0'' := (hbQ.cell (p := ⟨w.heap.size, 0, none⟩) (b1.below hbP1).1).trans d0'; have d1'' := (hbQ.cell (p := ⟨w.heap.size, 1, none⟩) (b1.below hbP1).1).trans d1'; have d2'' := (hbQ.cell (p := ⟨w.heap.size, 2, none⟩) (b1.below hbP1).1).trans d2'; have d3'' := (hbQ.cell (p := ⟨w.heap.size, 3, none⟩) (b1.below hbP1).1).trans d3'; have d4'' := (hbQ.cell (p := ⟨w.heap.size, 4, none⟩) (b1.below hbP1).1).trans d4'))
  have hb := bthen hbP1 hbQ
  clear c0'' c0' c0 c1'' c1' c1 c2'' c2' c2 c3'' c3' c3 c4'' c4' c4 d0'' d0' d0 d1'' d1' d1 d2'' d2' d2 d3'' d3' d3 d4'' d4' d4
  clear hbP hbQ hbP1 oy12_0 oy12_1 oy12_2
  clear hq12_0
  clear hq12_1
  clear hq12_2
  replace r4_w0_0 := r4_w0_0.below hb
  replace r4_w0_1 := r4_w0_1.below hb
  replace r4_w0_2 := r4_w0_2.below hb
  replace o6_0 := o6_0.below hb
  replace o6_1 := o6_1.below hb
  replace o6_2 := o6_2.below hb
  replace r8_g0_0 := r8_g0_0.below hb
  replace r8_g0_1 := r8_g0_1.below hb
  replace r8_g0_2 := r8_g0_2.below hb
  replace b1 := b1.below hb
  replace b5 := b5.below hb
  replace b7 := b7.below hb
  replace b9 := b9.below hb
  replace A := A.trans (hb.mono A.size)
  have z12 := hb.size
  clear hb
  have b1s := b1.1
  have b1c := b1.2
  have b5s := b5.1
  have b5c := b5.2
  have b7s := b7.1
  have b7c := b7.2
  have b9s := b9.1
  have b9c := b9.2
  go_wp2_with fail
  clear b1s b1c b5s b5c b7s b7c b9s b9c
  refine (u_mark_Heyting _ aH_x0 _ aH_x1 _ aH_x2 aH_x3 aH_x4 _ _ _ _ _ _ o6_0 o6_1 o6_2 (by omega) (by omega) (by omega)).mono ?_
  rintro e w13 ⟨rfl, no6_0, no6_1, no6_2, hk⟩
  replace r4_w0_0 := r4_w0_0.keep hk (by omega)
  replace r4_w0_1 := r4_w0_1.keep hk (by omega)
  replace r4_w0_2 := r4_w0_2.keep hk (by omega)
  replace r8_g0_0 := r8_g0_0.keep hk (by omega)
  replace r8_g0_1 := r8_g0_1.keep hk (by omega)
  replace r8_g0_2 := r8_g0_2.keep hk (by omega)
  clear o6_0; have o6_0 := no6_0; clear no6_0
  clear o6_1; have o6_1 := no6_1; clear no6_1
  clear o6_2; have o6_2 := no6_2; clear no6_2
  replace b1 := b1.keep hk (by omega)
  replace b5 := b5.keep hk (by omega)
  replace b7 := b7.keep hk (by omega)
  replace b9 := b9.keep hk (by omega)
  replace A := below_keep A hk (by omega) A.size
  have z13 := hk.size
  clear hk
  have b1s := b1.1
  have b1c := b1.2
  have b5s := b5.1
  have b5c := b5.2
  have b7s := b7.1
  have b7c := b7.2
  have b9s := b9.1
  have b9c := b9.2
  go_wp2_with fail
  clear b1s b1c b5s b5c b7s b7c b9s b9c
  refine (u_eq_Heyting _ _ r0_x0 _ _ r0_x1 _ _ r0_x2 r0_x3 r0_x4 _ r8_g0_0.sl r8_g0_1.sl r8_g0_2.sl r4_w0_0.sl r4_w0_1.sl r4_w0_2.sl (by omega)).mono ?_
  rintro e w14 ⟨rfl, hb⟩
  replace r4_w0_0 := r4_w0_0.below hb
  replace r4_w0_1 := r4_w0_1.below hb
  replace r4_w0_2 := r4_w0_2.below hb
  replace o6_0 := o6_0.below hb
  replace o6_1 := o6_1.below hb
  replace o6_2 := o6_2.below hb
  replace r8_g0_0 := r8_g0_0.below hb
  replace r8_g0_1 := r8_g0_1.below hb
  replace r8_g0_2 := r8_g0_2.below hb
  replace b1 := b1.below hb
  replace b5 := b5.below hb
  replace b7 := b7.below hb
  replace b9 := b9.below hb
  replace A := A.trans (hb.mono A.size)
  have z14 := hb.size
  clear hb
  clear o6_0
  clear o6_1
  clear o6_2
  have b1s := b1.1
  have b1c := b1.2
  have b5s := b5.1
  have b5c := b5.2
  have b7s := b7.1
  have b7c := b7.2
  have b9s := b9.1
  have b9c := b9.2
  go_wp2_with fail
  clear b1s b1c b5s b5c b7s b7c b9s b9c
  refine (u_mark_HeytingS _ r0_x0 _ r0_x1 _ r0_x2 r0_x3 r0_x4 _ _ _ _ _ _ r8_g0_0 r8_g0_1 r8_g0_2 (by omega) (by omega) (by omega)).mono ?_
  rintro e w15 ⟨rfl, nr8_g0_0, nr8_g0_1, nr8_g0_2, hk⟩
  replace r4_w0_0 := r4_w0_0.keep hk (by omega)
  replace r4_w0_1 := r4_w0_1.keep hk (by omega)
  replace r4_w0_2 := r4_w0_2.keep hk (by omega)
  clear r8_g0_0; have r8_g0_0 := nr8_g0_0; clear nr8_g0_0
  clear r8_g0_1; have r8_g0_1 := nr8_g0_1; clear nr8_g0_1
  clear r8_g0_2; have r8_g0_2 := nr8_g0_2; clear nr8_g0_2
  replace b1 := b1.keep hk (by omega)
  replace b5 := b5.keep hk (by omega)
  replace b7 := b7.keep hk (by omega)
  replace b9 := b9.keep hk (by omega)
  replace A := below_keep A hk (by omega) A.size
  have z15 := hk.size
  clear hk
  have b1s := b1.1
  have b1c := b1.2
  have b5s := b5.1
  have b5c := b5.2
  have b7s := b7.1
  have b7c := b7.2
  have b9s := b9.1
  have b9c := b9.2
  go_wp2_with fail
  clear b1s b1c b5s b5c b7s b7c b9s b9c
  refine (u_held_Heyting _ r0_x0 _ r0_x1 _ r0_x2 r0_x3 r0_x4 _ _ r8_g0_0.sl r8_g0_1.sl r8_g0_2.sl (by omega) (by omega)).mono ?_
  rintro e w16 ⟨rfl, hb⟩
  replace r4_w0_0 := r4_w0_0.below hb
  replace r4_w0_1 := r4_w0_1.below hb
  replace r4_w0_2 := r4_w0_2.below hb
  replace r8_g0_0 := r8_g0_0.below hb
  replace r8_g0_1 := r8_g0_1.below hb
  replace r8_g0_2 := r8_g0_2.below hb
  replace b1 := b1.below hb
  replace b5 := b5.below hb
  replace b7 := b7.below hb
  replace b9 := b9.below hb
  replace A := A.trans (hb.mono A.size)
  have z16 := hb.size
  clear hb
  have b1s := b1.1
  have b1c := b1.2
  have b5s := b5.1
  have b5c := b5.2
  have b7s := b7.1
  have b7c := b7.2
  have b9s := b9.1
  have b9c := b9.2
  go_wp2_with fail
  clear b1s b1c b5s b5c b7s b7c b9s b9c
  refine (u_to_Heyting _ aH_x0 _ aH_x1 _ aH_x2 aH_x3 aH_x4 _ (hH_0.below A) (hH_1.below A) (hH_2.below A) (by omega)).mono ?_
  rintro e w17 ⟨sH_v0, sH_v1, sH_v2, H17_, H17_1, rfl, hH17_a, hH17_b, hH17_c, o17_0, o17_1, o17_2, hb⟩
  replace r4_w0_0 := r4_w0_0.below hb
  replace r4_w0_1 := r4_w0_1.below hb
  replace r4_w0_2 := r4_w0_2.below hb
  replace r8_g0_0 := r8_g0_0.below hb
  replace r8_g0_1 := r8_g0_1.below hb
  replace r8_g0_2 := r8_g0_2.below hb
  replace b1 := b1.below hb
  replace b5 := b5.below hb
  replace b7 := b7.below hb
  replace b9 := b9.below hb
  replace A := A.trans (hb.mono A.size)
  have z17 := hb.size
  clear hb
  obtain ⟨sH_v0_A, sH_v0_c, rfl⟩ := o17_0.opn
  obtain ⟨sH_v1_A, sH_v1_c, rfl⟩ := o17_1.opn
  obtain ⟨sH_v2_A, sH_v2_c, rfl⟩ := o17_2.opn
  have b1s := b1.1
  have b1c := b1.2
  have b5s := b5.1
  have b5c := b5.2
  have b7s := b7.1
  have b7c := b7.2
  have b9s := b9.1
  have b9c := b9.2
  go_wp2_with fail
  clear b1s b1c b5s b5c b7s b7c b9s b9c
  refine (HI.out _ _ _ _ o17_0.sl o17_1.sl o17_2.sl).mono ?_
  rintro e w18 ⟨h0_v0, h0_v1, h0_v2, H18_h0, H18_h02, rfl, hH18_h0_a, hH18_h0_b, hH18_h0_c, r18_h0_0, r18_h0_1, r18_h0_2, hb⟩
  replace r4_w0_0 := r4_w0_0.below hb
  replace r4_w0_1 := r4_w0_1.below hb
  replace r4_w0_2 := r4_w0_2.below hb
  replace r8_g0_0 := r8_g0_0.below hb
  replace r8_g0_1 := r8_g0_1.below hb
  replace r8_g0_2 := r8_g0_2.below hb
  replace o17_0 := o17_0.below hb
  replace o17_1 := o17_1.below hb
  replace o17_2 := o17_2.below hb
  replace b1 := b1.below hb
  replace b5 := b5.below hb
  replace b7 := b7.below hb
  replace b9 := b9.below hb
  replace A := A.trans (hb.mono A.size)
  have z18 := hb.size
  clear hb
  obtain ⟨h0_v0_A, h0_v0_c, rfl⟩ := r18_h0_0.opn
  obtain ⟨h0_v1_A, h0_v1_c, rfl⟩ := r18_h0_1.opn
  obtain ⟨h0_v2_A, h0_v2_c, rfl⟩ := r18_h0_2.opn
  clear o17_0
  clear o17_1
  clear o17_2
  have hb19 := below_alloc' w18 (.cells #[.slice h0_v0_A r0_x0.length h0_v0_c, .slice h0_v1_A r0_x1.length h0_v1_c, .slice h0_v2_A r0_x2.length h0_v2_c, .int .i64 r0_x3, .int .i64 r0_x4] 29)
  have y19 := size_alloc' w18 (.cells #[.slice h0_v0_A r0_x0.length h0_v0_c, .slice h0_v1_A r0_x1.length h0_v1_c, .slice h0_v2_A r0_x2.length h0_v2_c, .int .i64 r0_x3, .int .i64 r0_x4] 29)
  replace r4_w0_0 := r4_w0_0.below hb19
  replace r4_w0_1 := r4_w0_1.below hb19
  replace r4_w0_2 := r4_w0_2.below hb19
  replace r8_g0_0 := r8_g0_0.below hb19
  replace r8_g0_1 := r8_g0_1.below hb19
  replace r8_g0_2 := r8_g0_2.below hb19
  replace r18_h0_0 := r18_h0_0.below hb19
  replace r18_h0_1 := r18_h0_1.below hb19
  replace r18_h0_2 := r18_h0_2.below hb19
  replace b1 := b1.below hb19
  replace b5 := b5.below hb19
  replace b7 := b7.below hb19
  replace b9 := b9.below hb19
  replace A := A.trans (hb19.mono A.size)
  have z19 := hb19.size
  have b19 := Bk.new w18 #[.slice h0_v0_A r0_x0.length h0_v0_c, .slice h0_v1_A r0_x1.length h0_v1_c, .slice h0_v2_A r0_x2.length h0_v2_c, .int .i64 r0_x3, .int .i64 r0_x4] 29
  clear hb19
  have b1s := b1.1
  have b1c := b1.2
  have b5s := b5.1
  have b5c := b5.2
  have b7s := b7.1
  have b7c := b7.2
  have b9s := b9.1
  have b9c := b9.2
  have b19s := b19.1
  have b19c := b19.2
  go_wp2_with fail
  clear b1s b1c b5s b5c b7s b7c b9s b9c b19s b19c
  refine (u_eq_Heyting _ _ r0_x0 _ _ r0_x1 _ _ r0_x2 r0_x3 r0_x4 _ r18_h0_0.sl r18_h0_1.sl r18_h0_2.sl r4_w0_0.sl r4_w0_1.sl r4_w0_2.sl (by omega)).mono ?_
  rintro e w20 ⟨rfl, hb⟩
  replace r4_w0_0 := r4_w0_0.below hb
  replace r4_w0_1 := r4_w0_1.below hb
  replace r4_w0_2 := r4_w0_2.below hb
  replace r8_g0_0 := r8_g0_0.below hb
  replace r8_g0_1 := r8_g0_1.below hb
  replace r8_g0_2 := r8_g0_2.below hb
  replace r18_h0_0 := r18_h0_0.below hb
  replace r18_h0_1 := r18_h0_1.below hb
  replace r18_h0_2 := r18_h0_2.below hb
  replace b1 := b1.below hb
  replace b5 := b5.below hb
  replace b7 := b7.below hb
  replace b9 := b9.below hb
  replace b19 := b19.below hb
  replace A := A.trans (hb.mono A.size)
  have z20 := hb.size
  clear hb
  have b1s := b1.1
  have b1c := b1.2
  have b5s := b5.1
  have b5c := b5.2
  have b7s := b7.1
  have b7c := b7.2
  have b9s := b9.1
  have b9c := b9.2
  have b19s := b19.1
  have b19c := b19.2
  go_wp2_with fail
  clear b1s b1c b5s b5c b7s b7c b9s b9c b19s b19c
  refine (u_held_Heyting _ r0_x0 _ r0_x1 _ r0_x2 r0_x3 r0_x4 _ _ r8_g0_0.sl r8_g0_1.sl r8_g0_2.sl (by omega) (by omega)).mono ?_
  rintro e w21 ⟨rfl, hb⟩
  replace r4_w0_0 := r4_w0_0.below hb
  replace r4_w0_1 := r4_w0_1.below hb
  replace r4_w0_2 := r4_w0_2.below hb
  replace r8_g0_0 := r8_g0_0.below hb
  replace r8_g0_1 := r8_g0_1.below hb
  replace r8_g0_2 := r8_g0_2.below hb
  replace r18_h0_0 := r18_h0_0.below hb
  replace r18_h0_1 := r18_h0_1.below hb
  replace r18_h0_2 := r18_h0_2.below hb
  replace b1 := b1.below hb
  replace b5 := b5.below hb
  replace b7 := b7.below hb
  replace b9 := b9.below hb
  replace b19 := b19.below hb
  replace A := A.trans (hb.mono A.size)
  have z21 := hb.size
  clear hb
  have b1s := b1.1
  have b1c := b1.2
  have b5s := b5.1
  have b5c := b5.2
  have b7s := b7.1
  have b7c := b7.2
  have b9s := b9.1
  have b9c := b9.2
  have b19s := b19.1
  have b19c := b19.2
  have BB := Lib.hid A; clear A
  clear r4_w0_0 r4_w0_1 r4_w0_2 r8_g0_0 r8_g0_1 r8_g0_2 r18_h0_0 r18_h0_1 r18_h0_2
  go_wp2
  go_ret
  exact ⟨rfl, BB.out⟩
theorem szT_of {X : List (List Int)} (h : totI X ≤ 1048576) : SzT X := by
  have hT : totI X = X.length + sumLI X := rfl
  refine ⟨by omega, fun r hr => ?_⟩
  obtain ⟨i, hi, rfl⟩ := List.mem_iff_getElem.1 hr
  have := sumLI_get X i hi
  omega
theorem tot_tab (f : Nat → Nat → Int) (n k : Nat) (hn : n ≤ 30) : sumLI (tabI f n k) ≤ 30 * k := by
  induction k with
  | zero => exact Nat.le_refl _
  | succ k ih =>
    rw [tabI_succ, sumLI_snoc, rowI_length]
    omega
theorem qTab_tot (X A O I : List (List Int)) (b t m : Int) : totI (qTab X A O I b t m) ≤ 1048576 := by
  unfold qTab
  split
  · next h =>
    obtain ⟨A1, O1, I1, b1, t1, m1, rfl, -, -, -, -, -, -, hT, -⟩ := fcd_0 h
    have h30 := hT.n30
    have h1 := fsl_le (qcl9 (lil A1) m) (lil A1).length
    rw [lil_length] at h1
    unfold qtb qfs9
    rw [lil_length]
    have h2 := tot_tab (qe (nT X) (fsl (qcl9 (lil A1) m) A1.length) (qcl9 (lil A1) m)) (fsl (qcl9 (lil A1) m) A1.length).length (fsl (qcl9 (lil A1) m) A1.length).length (by omega)
    unfold totI
    rw [tabI_length]
    omega
  · exact Nat.zero_le _
theorem final_QuotientAlgebra (v0 : Value) (A : List (List Int)) (v1 : Value) (O : List (List Int)) (v2 : Value) (I : List (List Int)) (b t m : Int) (w : World) (h0 : Sl2 cI w v0 A) (h1 : Sl2 cI w v1 O) (h2 : Sl2 cI w v2 I) :
    Calls Try.prog 4 #[.agg #[v0, v1, v2, .int .i64 b, .int .i64 t], .int .i64 m] w fun e w' => e = .returned (.bool true) ∧ Below w.heap.size w w' :=
  walk_QuotientAlgebra v0 A v1 O v2 I b t m (qTab A A O I b t m) (qTab O A O I b t m) (qTab I A O I b t m) (qNum b A O I b t m) (qNum t A O I b t m) (fcd A O I b t m) w h0 h1 h2 (qTab_tot _ _ _ _ _ _ _) (qTab_tot _ _ _ _ _ _ _) (qTab_tot _ _ _ _ _ _ _)
    (Lib.hid fun l W a o i ha ho hi => spec_QuotientAlgebra a o i b t m A O I W ⟨ha, ho, hi⟩ ⟨szT_of (by omega), szT_of (by omega), szT_of (by omega)⟩)
    (Lib.hid fun l W a o i ha ho hi => impl_QuotientAlgebra a o i b t m A O I W ⟨ha, ho, hi⟩ ⟨szT_of (by omega), szT_of (by omega), szT_of (by omega)⟩)
end Go.Proofs.Ytkllbehdmlbhaaa

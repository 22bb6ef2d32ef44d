/- The walk of the law FnExactReducedModel, written by program: it returns true and writes nothing that was there. -/
import Derived.Test.YtcjplcliggciaaaLB
import Derived.Test.YtcjplcliggciaaaOA
import Derived.Test.Ytcjplcliggciaaa05X
namespace Go.Proofs.Ytcjplcliggciaaa
open Go.RowKit
set_option linter.unusedVariables false
set_option linter.unusedSimpArgs false
set_option maxHeartbeats 1000000 in
set_option maxRecDepth 100000 in
theorem walk_ReducedModel (aM_x0 : Int) (vM_1 : Value) (aM_x1 : List Int) (vM_2 : Value) (aM_x2 : List Int) (aW_x0 : Int) (r0_x0 : Int) (r0_x1 : List Int) (r0_x2 : List Int) (r1_x0 : Int) (r2_x0 : Int) (w : World) (hM_1 : Sl cI w vM_1 aM_x1) (hM_2 : Sl cI w vM_2 aM_x2) (hr0_1 : r0_x1.length ≤ 1048576) (hr0_2 : r0_x2.length ≤ 1048576)
    (HS : Hid (aM_x1.length + aM_x2.length ≤ 1048576 → ∀ (W : World) (vM_1 : Value) (vM_2 : Value), Sl cI W vM_1 aM_x1 → Sl cI W vM_2 aM_x2 → Calls Try.prog 35 #[.agg #[.int .i64 aM_x0, vM_1, vM_2], .int .i64 aW_x0] W fun e w' => ∃ u0_1 u0_2 : Value, e = .returned (.tuple #[.agg #[.int .i64 r0_x0, u0_1, u0_2], .int .i64 r1_x0, .int .i64 r2_x0]) ∧ Ob cI 2 W.heap.size w'.heap.size w' u0_1 r0_x1 ∧ Ob cI 2 W.heap.size w'.heap.size w' u0_2 r0_x2 ∧ Below W.heap.size W w'))
    (HI : Hid (aM_x1.length + aM_x2.length ≤ 1048576 → ∀ (W : World) (vM_1 : Value) (vM_2 : Value), Sl cI W vM_1 aM_x1 → Sl cI W vM_2 aM_x2 → Calls Try.prog 37 #[.agg #[.int .i64 aM_x0, vM_1, vM_2], .int .i64 aW_x0] W fun e w' => ∃ u0_1 u0_2 : Value, ∃ Hr0 : Nat, e = .returned (.tuple #[.agg #[.int .i64 r0_x0, u0_1, u0_2], .int .i64 r1_x0, .int .i64 r2_x0]) ∧ W.heap.size ≤ Hr0 ∧ Hr0 ≤ w'.heap.size ∧ Ob cI 2 W.heap.size Hr0 w' u0_1 r0_x1 ∧ Ob cI 2 Hr0 w'.heap.size w' u0_2 r0_x2 ∧ Below W.heap.size W w')) :
    Calls Try.prog 7 #[.agg #[.int .i64 aM_x0, vM_1, vM_2], .int .i64 aW_x0] w fun e w' => e = .returned (.bool true) ∧ Below w.heap.size w w' := by
  rcases Nat.lt_or_ge 1048576 (aM_x1.length + aM_x2.length) with q0 | q0
  · obtain ⟨vM_1_A, vM_1_c, rfl⟩ := hM_1.opn
    obtain ⟨vM_2_A, vM_2_c, rfl⟩ := hM_2.opn
    have A := Below.refl w.heap.size w
    go_enter Try.func7, Try.ntmps7
    have hb1 := below_alloc' w (.cells #[.int .i64 aM_x0, .slice vM_1_A aM_x1.length vM_1_c, .slice vM_2_A aM_x2.length vM_2_c] 58)
    have y1 := size_alloc' w (.cells #[.int .i64 aM_x0, .slice vM_1_A aM_x1.length vM_1_c, .slice vM_2_A aM_x2.length vM_2_c] 58)
    replace A := A.trans (hb1.mono A.size)
    have z1 := hb1.size
    have b1 := Bk.new w #[.int .i64 aM_x0, .slice vM_1_A aM_x1.length vM_1_c, .slice vM_2_A aM_x2.length vM_2_c] 58
    clear hb1
    have b1s := b1.1
    have b1c := b1.2
    go_wp2_with fail
    clear b1s b1c
    refine (u_sz_Model aM_x0 _ aM_x1 _ aM_x2 _ _ (hM_1.below A) (hM_2.below A) (by omega)).mono ?_
    rintro e w2 ⟨rfl, hb⟩
    replace b1 := b1.below hb
    replace A := A.trans (hb.mono A.size)
    have z2 := hb.size
    clear hb
    rw [szL_neg (by omega)]
    have b1s := b1.1
    have b1c := b1.2
    have BB := Lib.hid A; clear A
    go_wp2
    go_ret
    exact ⟨rfl, BB.out⟩
  have HS := Lib.hid (HS.out (by omega))
  have HI := Lib.hid (HI.out (by omega))
  obtain ⟨vM_1_A, vM_1_c, rfl⟩ := hM_1.opn
  obtain ⟨vM_2_A, vM_2_c, rfl⟩ := hM_2.opn
  have A := Below.refl w.heap.size w
  go_enter Try.func7, Try.ntmps7
  have hb1 := below_alloc' w (.cells #[.int .i64 aM_x0, .slice vM_1_A aM_x1.length vM_1_c, .slice vM_2_A aM_x2.length vM_2_c] 58)
  have y1 := size_alloc' w (.cells #[.int .i64 aM_x0, .slice vM_1_A aM_x1.length vM_1_c, .slice vM_2_A aM_x2.length vM_2_c] 58)
  replace A := A.trans (hb1.mono A.size)
  have z1 := hb1.size
  have b1 := Bk.new w #[.int .i64 aM_x0, .slice vM_1_A aM_x1.length vM_1_c, .slice vM_2_A aM_x2.length vM_2_c] 58
  clear hb1
  have b1s := b1.1
  have b1c := b1.2
  go_wp2_with fail
  clear b1s b1c
  refine (u_sz_Model aM_x0 _ aM_x1 _ aM_x2 _ _ (hM_1.below A) (hM_2.below A) (by omega)).mono ?_
  rintro e w2 ⟨rfl, hb⟩
  replace b1 := b1.below hb
  replace A := A.trans (hb.mono A.size)
  have z2 := hb.size
  clear hb
  rw [szL_pos (by omega)]
  have b1s := b1.1
  have b1c := b1.2
  go_wp2_with fail
  clear b1s b1c
  refine (u_to_Model aM_x0 _ aM_x1 _ aM_x2 _ (hM_1.below A) (hM_2.below A) (by omega)).mono ?_
  rintro e w3 ⟨tM_v1, tM_v2, H3_, rfl, hH3_a, hH3_b, o3_1, o3_2, hb⟩
  replace b1 := b1.below hb
  replace A := A.trans (hb.mono A.size)
  have z3 := hb.size
  clear hb
  obtain ⟨tM_v1_A, tM_v1_c, rfl⟩ := o3_1.opn
  obtain ⟨tM_v2_A, tM_v2_c, rfl⟩ := o3_2.opn
  have b1s := b1.1
  have b1c := b1.2
  go_wp2_with fail
  clear b1s b1c
  refine (HS.out _ _ _ o3_1.sl o3_2.sl).mono ?_
  rintro e w4 ⟨w0_v1, w0_v2, rfl, r4_w0_1, r4_w0_2, hb⟩
  replace o3_1 := o3_1.below hb
  replace o3_2 := o3_2.below hb
  replace b1 := b1.below hb
  replace A := A.trans (hb.mono A.size)
  have z4 := hb.size
  clear hb
  obtain ⟨w0_v1_A, w0_v1_c, rfl⟩ := r4_w0_1.opn
  obtain ⟨w0_v2_A, w0_v2_c, rfl⟩ := r4_w0_2.opn
  clear o3_1
  clear o3_2
  have hb5 := below_alloc' w4 (.cells #[.int .i64 r0_x0, .slice w0_v1_A r0_x1.length w0_v1_c, .slice w0_v2_A r0_x2.length w0_v2_c] 62)
  have y5 := size_alloc' w4 (.cells #[.int .i64 r0_x0, .slice w0_v1_A r0_x1.length w0_v1_c, .slice w0_v2_A r0_x2.length w0_v2_c] 62)
  replace r4_w0_1 := r4_w0_1.below hb5
  replace r4_w0_2 := r4_w0_2.below hb5
  replace b1 := b1.below hb5
  replace A := A.trans (hb5.mono A.size)
  have z5 := hb5.size
  have b5 := Bk.new w4 #[.int .i64 r0_x0, .slice w0_v1_A r0_x1.length w0_v1_c, .slice w0_v2_A r0_x2.length w0_v2_c] 62
  clear hb5
  have b1s := b1.1
  have b1c := b1.2
  have b5s := b5.1
  have b5c := b5.2
  go_wp2_with fail
  clear b1s b1c b5s b5c
  refine (u_to_Model aM_x0 _ aM_x1 _ aM_x2 _ (hM_1.below A) (hM_2.below A) (by omega)).mono ?_
  rintro e w6 ⟨xM_v1, xM_v2, H6_, rfl, hH6_a, hH6_b, o6_1, o6_2, hb⟩
  replace r4_w0_1 := r4_w0_1.below hb
  replace r4_w0_2 := r4_w0_2.below hb
  replace b1 := b1.below hb
  replace b5 := b5.below hb
  replace A := A.trans (hb.mono A.size)
  have z6 := hb.size
  clear hb
  obtain ⟨xM_v1_A, xM_v1_c, rfl⟩ := o6_1.opn
  obtain ⟨xM_v2_A, xM_v2_c, rfl⟩ := o6_2.opn
  have hb7 := below_alloc' w6 (.cells #[.int .i64 aM_x0, .slice xM_v1_A aM_x1.length xM_v1_c, .slice xM_v2_A aM_x2.length xM_v2_c] 62)
  have y7 := size_alloc' w6 (.cells #[.int .i64 aM_x0, .slice xM_v1_A aM_x1.length xM_v1_c, .slice xM_v2_A aM_x2.length xM_v2_c] 62)
  replace r4_w0_1 := r4_w0_1.below hb7
  replace r4_w0_2 := r4_w0_2.below hb7
  replace o6_1 := o6_1.below hb7
  replace o6_2 := o6_2.below hb7
  replace b1 := b1.below hb7
  replace b5 := b5.below hb7
  replace A := A.trans (hb7.mono A.size)
  have z7 := hb7.size
  have b7 := Bk.new w6 #[.int .i64 aM_x0, .slice xM_v1_A aM_x1.length xM_v1_c, .slice xM_v2_A aM_x2.length xM_v2_c] 62
  clear hb7
  have b1s := b1.1
  have b1c := b1.2
  have b5s := b5.1
  have b5c := b5.2
  have b7s := b7.1
  have b7c := b7.2
  go_wp2_with fail
  clear b1s b1c b5s b5c b7s b7c
  refine (HI.out _ _ _ o6_1.sl o6_2.sl).mono ?_
  rintro e w8 ⟨g0_v1, g0_v2, H8_g0, rfl, hH8_g0_a, hH8_g0_b, r8_g0_1, r8_g0_2, hb⟩
  replace r4_w0_1 := r4_w0_1.below hb
  replace r4_w0_2 := r4_w0_2.below hb
  replace o6_1 := o6_1.below hb
  replace o6_2 := o6_2.below hb
  replace b1 := b1.below hb
  replace b5 := b5.below hb
  replace b7 := b7.below hb
  replace A := A.trans (hb.mono A.size)
  have z8 := hb.size
  clear hb
  obtain ⟨g0_v1_A, g0_v1_c, rfl⟩ := r8_g0_1.opn
  obtain ⟨g0_v2_A, g0_v2_c, rfl⟩ := r8_g0_2.opn
  have hb9 := below_alloc' w8 (.cells #[.int .i64 r0_x0, .slice g0_v1_A r0_x1.length g0_v1_c, .slice g0_v2_A r0_x2.length g0_v2_c] 62)
  have y9 := size_alloc' w8 (.cells #[.int .i64 r0_x0, .slice g0_v1_A r0_x1.length g0_v1_c, .slice g0_v2_A r0_x2.length g0_v2_c] 62)
  replace r4_w0_1 := r4_w0_1.below hb9
  replace r4_w0_2 := r4_w0_2.below hb9
  replace o6_1 := o6_1.below hb9
  replace o6_2 := o6_2.below hb9
  replace r8_g0_1 := r8_g0_1.below hb9
  replace r8_g0_2 := r8_g0_2.below hb9
  replace b1 := b1.below hb9
  replace b5 := b5.below hb9
  replace b7 := b7.below hb9
  replace A := A.trans (hb9.mono A.size)
  have z9 := hb9.size
  have b9 := Bk.new w8 #[.int .i64 r0_x0, .slice g0_v1_A r0_x1.length g0_v1_c, .slice g0_v2_A r0_x2.length g0_v2_c] 62
  clear hb9
  have b1s := b1.1
  have b1c := b1.2
  have b5s := b5.1
  have b5c := b5.2
  have b7s := b7.1
  have b7c := b7.2
  have b9s := b9.1
  have b9c := b9.2
  go_wp2_with fail
  clear b1s b1c b5s b5c b7s b7c b9s b9c
  refine (u_eq_Model r0_x0 _ _ r0_x1 _ _ r0_x2 _ r8_g0_1.sl r8_g0_2.sl r4_w0_1.sl r4_w0_2.sl (by omega)).mono ?_
  rintro e w10 ⟨rfl, hb⟩
  replace r4_w0_1 := r4_w0_1.below hb
  replace r4_w0_2 := r4_w0_2.below hb
  replace o6_1 := o6_1.below hb
  replace o6_2 := o6_2.below hb
  replace r8_g0_1 := r8_g0_1.below hb
  replace r8_g0_2 := r8_g0_2.below hb
  replace b1 := b1.below hb
  replace b5 := b5.below hb
  replace b7 := b7.below hb
  replace b9 := b9.below hb
  replace A := A.trans (hb.mono A.size)
  have z10 := hb.size
  clear hb
  have b1s := b1.1
  have b1c := b1.2
  have b5s := b5.1
  have b5c := b5.2
  have b7s := b7.1
  have b7c := b7.2
  have b9s := b9.1
  have b9c := b9.2
  go_wp2_with fail
  clear b1s b1c b5s b5c b7s b7c b9s b9c
  have hq12_1 := hM_1.below A
  have hq12_2 := hM_2.below A
  have c0 : w10.cell? ⟨w6.heap.size, 0, none⟩ = some (.int .i64 aM_x0) := b7.2 0
  have c1 : w10.cell? ⟨w6.heap.size, 1, none⟩ = some (.slice xM_v1_A aM_x1.length xM_v1_c) := b7.2 1
  have c2 : w10.cell? ⟨w6.heap.size, 2, none⟩ = some (.slice xM_v2_A aM_x2.length xM_v2_c) := b7.2 2
  have d0 : w10.cell? ⟨w.heap.size, 0, none⟩ = some (.int .i64 aM_x0) := b1.2 0
  have d1 : w10.cell? ⟨w.heap.size, 1, none⟩ = some (.slice vM_1_A aM_x1.length vM_1_c) := b1.2 1
  have d2 : w10.cell? ⟨w.heap.size, 2, none⟩ = some (.slice vM_2_A aM_x2.length vM_2_c) := b1.2 2
  go_region_held3 (fun w' => w'.cell? ⟨w6.heap.size, 0, none⟩ = some (.int .i64 aM_x0) ∧ w'.cell? ⟨w6.heap.size, 1, none⟩ = some (.slice xM_v1_A aM_x1.length xM_v1_c) ∧ w'.cell? ⟨w6.heap.size, 2, none⟩ = some (.slice xM_v2_A aM_x2.length xM_v2_c) ∧ w'.cell? ⟨w.heap.size, 0, none⟩ = some (.int .i64 aM_x0) ∧ w'.cell? ⟨w.heap.size, 1, none⟩ = some (.slice vM_1_A aM_x1.length vM_1_c) ∧ w'.cell? ⟨w.heap.size, 2, none⟩ = some (.slice vM_2_A aM_x2.length vM_2_c)) (first | exact ⟨c0'', c1'', c2'', d0'', d1'', d2''⟩ | exact ⟨c0', c1', c2', d0', d1', d2'⟩ | exact ⟨c0, c1, c2, d0, d1, d2⟩ | (simp [*]; done)) (first | (go_at_call 36; refine (u_to_Model aM_x0 _ aM_x1 _ aM_x2 _ (hq12_1.below (below_drewN (Below.refl _ _) 1)) (hq12_2.below (below_drewN (Below.refl _ _) 1)) (by omega)).mono ?_; rintro e w11 ⟨y12_1, y12_2, Hy12_, rfl, hHy12_a, hHy12_b, oy12_1, oy12_2, hbP⟩; obtain ⟨y12_1_A, y12_1_c, rfl⟩ := oy12_1.opn; obtain ⟨y12_2_A, y12_2_c, rfl⟩ := oy12_2.opn; have hbP1 : Below w10.heap.size w10 w11 := (below_drewN (Below.refl _ _) 1).trans hbP; have c0' := (hbP1.cell (p := ⟨w6.heap.size, 0, none⟩) b7.1).trans c0; have c1' := (hbP1.cell (p := ⟨w6.heap.size, 1, none⟩) b7.1).trans c1; have c2' := (hbP1.cell (p := ⟨w6.heap.size, 2, none⟩) b7.1).trans c2; have d0' := (hbP1.cell (p := ⟨w.heap.size, 0, none⟩) b1.1).trans d0; have d1' := (hbP1.cell (p := ⟨w.heap.size, 1, none⟩) b1.1).trans d1; have d2' := (hbP1.cell (p := ⟨w.heap.size, 2, none⟩) b1.1).trans d2) | (go_at_call 38; refine (u_eq_Model aM_x0 _ _ aM_x1 _ _ aM_x2 _ (o6_1.below hbP1).sl (o6_2.below hbP1).sl oy12_1.sl oy12_2.sl (by omega)).mono ?_; rintro e w12 ⟨rfl, hbQ⟩; have c0'' := (hbQ.cell (p := ⟨w6.heap.size, 0, none⟩) (b7.below hbP1).1).trans c0'; have c1'' := (hbQ.cell (p := ⟨w6.heap.size, 1, none⟩) (b7.below hbP1).1).trans c1'; have c2'' := (hbQ.cell (p := ⟨w6.heap.size, 2, none⟩) (b7.below hbP1).1).trans c2'; have d0'' := (hbQ.cell (p := ⟨w.heap.size, 0, none⟩) (b1.below hbP1).1).trans d0'; have d1'' := (hbQ.cell (p := ⟨w.heap.size, 1, none⟩) (b1.below hbP1).1).trans d1'; have d2'' := (hbQ.cell (p := ⟨w.heap.size, 2, none⟩) (b1.below hbP1).1).trans d2'))
  have hb := bthen hbP1 hbQ
  clear c0'' c0' c0 c1'' c1' c1 c2'' c2' c2 d0'' d0' d0 d1'' d1' d1 d2'' d2' d2
  clear hbP hbQ hbP1 oy12_1 oy12_2
  clear hq12_1
  clear hq12_2
  replace r4_w0_1 := r4_w0_1.below hb
  replace r4_w0_2 := r4_w0_2.below hb
  replace o6_1 := o6_1.below hb
  replace o6_2 := o6_2.below hb
  replace r8_g0_1 := r8_g0_1.below hb
  replace r8_g0_2 := r8_g0_2.below hb
  replace b1 := b1.below hb
  replace b5 := b5.below hb
  replace b7 := b7.below hb
  replace b9 := b9.below hb
  replace A := A.trans (hb.mono A.size)
  have z12 := hb.size
  clear hb
  have b1s := b1.1
  have b1c := b1.2
  have b5s := b5.1
  have b5c := b5.2
  have b7s := b7.1
  have b7c := b7.2
  have b9s := b9.1
  have b9c := b9.2
  go_wp2_with fail
  clear b1s b1c b5s b5c b7s b7c b9s b9c
  refine (u_mark_Model aM_x0 _ aM_x1 _ aM_x2 _ _ _ _ _ o6_1 o6_2 (by omega) (by omega) (by omega)).mono ?_
  rintro e w13 ⟨rfl, no6_1, no6_2, hk⟩
  replace r4_w0_1 := r4_w0_1.keep hk (by omega)
  replace r4_w0_2 := r4_w0_2.keep hk (by omega)
  replace r8_g0_1 := r8_g0_1.keep hk (by omega)
  replace r8_g0_2 := r8_g0_2.keep hk (by omega)
  clear o6_1; have o6_1 := no6_1; clear no6_1
  clear o6_2; have o6_2 := no6_2; clear no6_2
  replace b1 := b1.keep hk (by omega)
  replace b5 := b5.keep hk (by omega)
  replace b7 := b7.keep hk (by omega)
  replace b9 := b9.keep hk (by omega)
  replace A := below_keep A hk (by omega) A.size
  have z13 := hk.size
  clear hk
  have b1s := b1.1
  have b1c := b1.2
  have b5s := b5.1
  have b5c := b5.2
  have b7s := b7.1
  have b7c := b7.2
  have b9s := b9.1
  have b9c := b9.2
  go_wp2_with fail
  clear b1s b1c b5s b5c b7s b7c b9s b9c
  refine (u_eq_Model r0_x0 _ _ r0_x1 _ _ r0_x2 _ r8_g0_1.sl r8_g0_2.sl r4_w0_1.sl r4_w0_2.sl (by omega)).mono ?_
  rintro e w14 ⟨rfl, hb⟩
  replace r4_w0_1 := r4_w0_1.below hb
  replace r4_w0_2 := r4_w0_2.below hb
  replace o6_1 := o6_1.below hb
  replace o6_2 := o6_2.below hb
  replace r8_g0_1 := r8_g0_1.below hb
  replace r8_g0_2 := r8_g0_2.below hb
  replace b1 := b1.below hb
  replace b5 := b5.below hb
  replace b7 := b7.below hb
  replace b9 := b9.below hb
  replace A := A.trans (hb.mono A.size)
  have z14 := hb.size
  clear hb
  clear o6_1
  clear o6_2
  have b1s := b1.1
  have b1c := b1.2
  have b5s := b5.1
  have b5c := b5.2
  have b7s := b7.1
  have b7c := b7.2
  have b9s := b9.1
  have b9c := b9.2
  go_wp2_with fail
  clear b1s b1c b5s b5c b7s b7c b9s b9c
  refine (u_mark_Model r0_x0 _ r0_x1 _ r0_x2 _ _ _ _ _ r8_g0_1 r8_g0_2 (by omega) (by omega) (by omega)).mono ?_
  rintro e w15 ⟨rfl, nr8_g0_1, nr8_g0_2, hk⟩
  replace r4_w0_1 := r4_w0_1.keep hk (by omega)
  replace r4_w0_2 := r4_w0_2.keep hk (by omega)
  clear r8_g0_1; have r8_g0_1 := nr8_g0_1; clear nr8_g0_1
  clear r8_g0_2; have r8_g0_2 := nr8_g0_2; clear nr8_g0_2
  replace b1 := b1.keep hk (by omega)
  replace b5 := b5.keep hk (by omega)
  replace b7 := b7.keep hk (by omega)
  replace b9 := b9.keep hk (by omega)
  replace A := below_keep A hk (by omega) A.size
  have z15 := hk.size
  clear hk
  have b1s := b1.1
  have b1c := b1.2
  have b5s := b5.1
  have b5c := b5.2
  have b7s := b7.1
  have b7c := b7.2
  have b9s := b9.1
  have b9c := b9.2
  go_wp2_with fail
  clear b1s b1c b5s b5c b7s b7c b9s b9c
  refine (u_held_Model r0_x0 _ r0_x1.length _ r0_x2.length _ _ r8_g0_1.sl r8_g0_2.sl (by omega) (by omega)).mono ?_
  rintro e w16 ⟨rfl, hb⟩
  replace r4_w0_1 := r4_w0_1.below hb
  replace r4_w0_2 := r4_w0_2.below hb
  replace r8_g0_1 := r8_g0_1.below hb
  replace r8_g0_2 := r8_g0_2.below hb
  replace b1 := b1.below hb
  replace b5 := b5.below hb
  replace b7 := b7.below hb
  replace b9 := b9.below hb
  replace A := A.trans (hb.mono A.size)
  have z16 := hb.size
  clear hb
  have b1s := b1.1
  have b1c := b1.2
  have b5s := b5.1
  have b5c := b5.2
  have b7s := b7.1
  have b7c := b7.2
  have b9s := b9.1
  have b9c := b9.2
  go_wp2_with fail
  clear b1s b1c b5s b5c b7s b7c b9s b9c
  refine (u_to_Model aM_x0 _ aM_x1 _ aM_x2 _ (hM_1.below A) (hM_2.below A) (by omega)).mono ?_
  rintro e w17 ⟨sM_v1, sM_v2, H17_, rfl, hH17_a, hH17_b, o17_1, o17_2, hb⟩
  replace r4_w0_1 := r4_w0_1.below hb
  replace r4_w0_2 := r4_w0_2.below hb
  replace r8_g0_1 := r8_g0_1.below hb
  replace r8_g0_2 := r8_g0_2.below hb
  replace b1 := b1.below hb
  replace b5 := b5.below hb
  replace b7 := b7.below hb
  replace b9 := b9.below hb
  replace A := A.trans (hb.mono A.size)
  have z17 := hb.size
  clear hb
  obtain ⟨sM_v1_A, sM_v1_c, rfl⟩ := o17_1.opn
  obtain ⟨sM_v2_A, sM_v2_c, rfl⟩ := o17_2.opn
  have b1s := b1.1
  have b1c := b1.2
  have b5s := b5.1
  have b5c := b5.2
  have b7s := b7.1
  have b7c := b7.2
  have b9s := b9.1
  have b9c := b9.2
  go_wp2_with fail
  clear b1s b1c b5s b5c b7s b7c b9s b9c
  refine (HI.out _ _ _ o17_1.sl o17_2.sl).mono ?_
  rintro e w18 ⟨h0_v1, h0_v2, H18_h0, rfl, hH18_h0_a, hH18_h0_b, r18_h0_1, r18_h0_2, hb⟩
  replace r4_w0_1 := r4_w0_1.below hb
  replace r4_w0_2 := r4_w0_2.below hb
  replace r8_g0_1 := r8_g0_1.below hb
  replace r8_g0_2 := r8_g0_2.below hb
  replace o17_1 := o17_1.below hb
  replace o17_2 := o17_2.below hb
  replace b1 := b1.below hb
  replace b5 := b5.below hb
  replace b7 := b7.below hb
  replace b9 := b9.below hb
  replace A := A.trans (hb.mono A.size)
  have z18 := hb.size
  clear hb
  obtain ⟨h0_v1_A, h0_v1_c, rfl⟩ := r18_h0_1.opn
  obtain ⟨h0_v2_A, h0_v2_c, rfl⟩ := r18_h0_2.opn
  clear o17_1
  clear o17_2
  have hb19 := below_alloc' w18 (.cells #[.int .i64 r0_x0, .slice h0_v1_A r0_x1.length h0_v1_c, .slice h0_v2_A r0_x2.length h0_v2_c] 62)
  have y19 := size_alloc' w18 (.cells #[.int .i64 r0_x0, .slice h0_v1_A r0_x1.length h0_v1_c, .slice h0_v2_A r0_x2.length h0_v2_c] 62)
  replace r4_w0_1 := r4_w0_1.below hb19
  replace r4_w0_2 := r4_w0_2.below hb19
  replace r8_g0_1 := r8_g0_1.below hb19
  replace r8_g0_2 := r8_g0_2.below hb19
  replace r18_h0_1 := r18_h0_1.below hb19
  replace r18_h0_2 := r18_h0_2.below hb19
  replace b1 := b1.below hb19
  replace b5 := b5.below hb19
  replace b7 := b7.below hb19
  replace b9 := b9.below hb19
  replace A := A.trans (hb19.mono A.size)
  have z19 := hb19.size
  have b19 := Bk.new w18 #[.int .i64 r0_x0, .slice h0_v1_A r0_x1.length h0_v1_c, .slice h0_v2_A r0_x2.length h0_v2_c] 62
  clear hb19
  have b1s := b1.1
  have b1c := b1.2
  have b5s := b5.1
  have b5c := b5.2
  have b7s := b7.1
  have b7c := b7.2
  have b9s := b9.1
  have b9c := b9.2
  have b19s := b19.1
  have b19c := b19.2
  go_wp2_with fail
  clear b1s b1c b5s b5c b7s b7c b9s b9c b19s b19c
  refine (u_eq_Model r0_x0 _ _ r0_x1 _ _ r0_x2 _ r18_h0_1.sl r18_h0_2.sl r4_w0_1.sl r4_w0_2.sl (by omega)).mono ?_
  rintro e w20 ⟨rfl, hb⟩
  replace r4_w0_1 := r4_w0_1.below hb
  replace r4_w0_2 := r4_w0_2.below hb
  replace r8_g0_1 := r8_g0_1.below hb
  replace r8_g0_2 := r8_g0_2.below hb
  replace r18_h0_1 := r18_h0_1.below hb
  replace r18_h0_2 := r18_h0_2.below hb
  replace b1 := b1.below hb
  replace b5 := b5.below hb
  replace b7 := b7.below hb
  replace b9 := b9.below hb
  replace b19 := b19.below hb
  replace A := A.trans (hb.mono A.size)
  have z20 := hb.size
  clear hb
  have b1s := b1.1
  have b1c := b1.2
  have b5s := b5.1
  have b5c := b5.2
  have b7s := b7.1
  have b7c := b7.2
  have b9s := b9.1
  have b9c := b9.2
  have b19s := b19.1
  have b19c := b19.2
  go_wp2_with fail
  clear b1s b1c b5s b5c b7s b7c b9s b9c b19s b19c
  refine (u_held_Model r0_x0 _ r0_x1.length _ r0_x2.length _ _ r8_g0_1.sl r8_g0_2.sl (by omega) (by omega)).mono ?_
  rintro e w21 ⟨rfl, hb⟩
  replace r4_w0_1 := r4_w0_1.below hb
  replace r4_w0_2 := r4_w0_2.below hb
  replace r8_g0_1 := r8_g0_1.below hb
  replace r8_g0_2 := r8_g0_2.below hb
  replace r18_h0_1 := r18_h0_1.below hb
  replace r18_h0_2 := r18_h0_2.below hb
  replace b1 := b1.below hb
  replace b5 := b5.below hb
  replace b7 := b7.below hb
  replace b9 := b9.below hb
  replace b19 := b19.below hb
  replace A := A.trans (hb.mono A.size)
  have z21 := hb.size
  clear hb
  have b1s := b1.1
  have b1c := b1.2
  have b5s := b5.1
  have b5c := b5.2
  have b7s := b7.1
  have b7c := b7.2
  have b9s := b9.1
  have b9c := b9.2
  have b19s := b19.1
  have b19c := b19.2
  have BB := Lib.hid A; clear A
  clear r4_w0_1 r4_w0_2 r8_g0_1 r8_g0_2 r18_h0_1 r18_h0_2
  go_wp2
  go_ret
  exact ⟨rfl, BB.out⟩
theorem mod_opn {va vu : Value} {ns us : List Nat} {w : World} (ha : Sl cI w va (li ns)) (hu : Sl cI w vu (li us)) (h6 : us.length = 6) : ∃ A0 c0 A1 c1, va = .slice A0 ns.length c0 ∧ vu = .slice A1 6 c1 := by
  obtain ⟨A0, c0, rfl⟩ := ha.opn
  obtain ⟨A1, c1, rfl⟩ := hu.opn
  exact ⟨A0, c0, A1, c1, by rw [li_length], by rw [li_length, h6]⟩
theorem final_ReducedModel (n : Int) (va : Value) (xs : List Int) (vu : Value) (vs : List Int) (x : Int) (w : World) (ha : Sl cI w va xs) (hu : Sl cI w vu vs) :
    Calls Try.prog 7 #[.agg #[.int .i64 n, va, vu], .int .i64 x] w fun e w' => e = .returned (.bool true) ∧ Below w.heap.size w w' := by
  cases hc : mdOk n xs vs
  · exact walk_ReducedModel n va xs vu vs x 0 [] [] 0 1 w ha hu (by simp) (by simp)
      (Lib.hid fun h1 W va vu ha hu => (spec_ReducedModel_bad n x va vu xs vs W ha hu (by omega) (by omega) hc).mono fun e w' ⟨he, hb⟩ => ⟨_, _, he, (Ow.nil _ _).ob, (Ow.nil _ _).ob, hb⟩)
      (Lib.hid fun h1 W va vu ha hu => (impl_ReducedModel_bad n x va vu xs vs W ha hu (by omega) (by omega) hc).mono fun e w' ⟨he, hb⟩ => ⟨_, _, w'.heap.size, he, hb.size, Nat.le_refl _, (Ow.nil _ _).ob, (Ow.nil _ _).ob, hb⟩)
  · obtain ⟨ns, us, rfl, rfl, rfl, hr, h6, hb⟩ := mdOk_iff hc
    have hN : MdN ns us := ⟨hr, h6, hb⟩
    have h8 := hr.1
    cases hx : inR x 0 ((ns.length : Int) - 1)
    · exact walk_ReducedModel _ va _ vu _ x 0 [] [] 0 2 w ha hu (by simp) (by simp)
        (Lib.hid fun h1 W va vu ha hu => (spec_ReducedModel_out _ x va vu _ _ W ha hu (by omega) (by omega) hc ⟨by omega, by omega⟩ hx).mono fun e w' ⟨he, hb⟩ => ⟨_, _, he, (Ow.nil _ _).ob, (Ow.nil _ _).ob, hb⟩)
        (Lib.hid fun h1 W va vu ha hu => (impl_ReducedModel_out _ x va vu _ _ W ha hu (by omega) (by omega) hc ⟨by omega, by omega⟩ hx).mono fun e w' ⟨he, hb⟩ => ⟨_, _, w'.heap.size, he, hb.size, Nat.le_refl _, (Ow.nil _ _).ob, (Ow.nil _ _).ob, hb⟩)
    · have hx2 := inR_iff.1 hx
      obtain ⟨y, rfl⟩ : ∃ y : Nat, x = y := ⟨x.toNat, by omega⟩
      have hy : y < ns.length := by omega
      obtain ⟨k, hk, hk1, hk2⟩ := mems_find (m := rch ns y) (x := y) (by omega) (by rw [rch_bit]; simp)
      have hR : rch ns y < 2 ^ ns.length := rch_lt ns hr.2 hy
      have hP := pt_md ns us (rch ns y) hN hR
      have hP8 := hP.r.1
      refine walk_ReducedModel _ va _ vu _ _ (qn (ptr ns (rch ns y)) (ptv us (rch ns y)) : Nat) (li (qrl (qcl (ptr ns (rch ns y)) (ptv us (rch ns y))) (ptr ns (rch ns y)) (qn (ptr ns (rch ns y)) (ptv us (rch ns y))) (ptr ns (rch ns y)).length)) (li (qvl (qcl (ptr ns (rch ns y)) (ptv us (rch ns y))) (ptv us (rch ns y)))) ((qcl (ptr ns (rch ns y)) (ptv us (rch ns y))).getD k 0 : Nat) 0 w ha hu (by rw [li_length, qrl_length]; have := qn_le (ptr ns (rch ns y)) (ptv us (rch ns y)) hP8; omega) (by rw [li_length, qvl_length, hP.l]; omega) (Lib.hid fun h1 W va vu ha hu => ?_) (Lib.hid fun h1 W va vu ha hu => ?_)
      · obtain ⟨A0, c0, A1, c1, rfl, rfl⟩ := mod_opn ha hu h6
        exact (spec_ReducedModel_ok ns us y k A0 A1 c0 c1 W ⟨ha, hu⟩ hN hc hy hk hk1 hk2).mono fun e w' ⟨u1, u2, he, ho1, ho2, hb⟩ => ⟨u1, u2, he, ho1.ob, ho2.ob, hb⟩
      · obtain ⟨A0, c0, A1, c1, rfl, rfl⟩ := mod_opn ha hu h6
        exact (impl_ReducedModel_ok ns us y k A0 A1 c0 c1 W ⟨ha, hu⟩ hN hc hy hk hk1 hk2).mono fun e w' ⟨u1, u2, he, ⟨H, hH1, hH2, ho1, ho2⟩, hb⟩ => ⟨u1, u2, H, he, hH1, hH2, ho1, ho2, hb⟩
end Go.Proofs.Ytcjplcliggciaaa

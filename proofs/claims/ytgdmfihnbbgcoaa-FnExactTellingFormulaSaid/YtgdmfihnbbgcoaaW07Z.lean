/- The walk of the law FnExactTellingFormula, written by program: it returns true and writes nothing that was there. -/
import Derived.Test.YtgdmfihnbbgcoaaLB
import Derived.Test.YtgdmfihnbbgcoaaOA
import Derived.Test.Ytgdmfihnbbgcoaa07J
namespace Go.Proofs.Ytgdmfihnbbgcoaa
open Go.RowKit
set_option linter.unusedVariables false
set_option linter.unusedSimpArgs false
set_option maxHeartbeats 1000000 in
set_option maxRecDepth 100000 in
theorem walk_TellingFormula (aM_x0 : Int) (vM_1 : Value) (aM_x1 : List Int) (vM_2 : Value) (aM_x2 : List Int) (aX_x0 : Int) (aN_x0 : Int) (vN_1 : Value) (aN_x1 : List Int) (vN_2 : Value) (aN_x2 : List Int) (aY_x0 : Int) (r0_x0 : List Nd) (r1_x0 : Int) (w : World) (hM_1 : Sl cI w vM_1 aM_x1) (hM_2 : Sl cI w vM_2 aM_x2) (hN_1 : Sl cI w vN_1 aN_x1) (hN_2 : Sl cI w vN_2 aN_x2) (hr0_0 : r0_x0.length ≤ 1048576)
    (HS : Hid (aM_x1.length + aM_x2.length + aN_x1.length + aN_x2.length ≤ 1048576 → ∀ (W : World) (vM_1 : Value) (vM_2 : Value) (vN_1 : Value) (vN_2 : Value), Sl cI W vM_1 aM_x1 → Sl cI W vM_2 aM_x2 → Sl cI W vN_1 aN_x1 → Sl cI W vN_2 aN_x2 → Calls Try.prog 33 #[.agg #[.int .i64 aM_x0, vM_1, vM_2], .int .i64 aX_x0, .agg #[.int .i64 aN_x0, vN_1, vN_2], .int .i64 aY_x0] W fun e w' => ∃ u0_0 : Value, e = .returned (.tuple #[u0_0, .int .i64 r1_x0]) ∧ Ob cN 89 W.heap.size w'.heap.size w' u0_0 r0_x0 ∧ Below W.heap.size W w'))
    (HI : Hid (aM_x1.length + aM_x2.length + aN_x1.length + aN_x2.length ≤ 1048576 → ∀ (W : World) (vM_1 : Value) (vM_2 : Value) (vN_1 : Value) (vN_2 : Value), Sl cI W vM_1 aM_x1 → Sl cI W vM_2 aM_x2 → Sl cI W vN_1 aN_x1 → Sl cI W vN_2 aN_x2 → Calls Try.prog 35 #[.agg #[.int .i64 aM_x0, vM_1, vM_2], .int .i64 aX_x0, .agg #[.int .i64 aN_x0, vN_1, vN_2], .int .i64 aY_x0] W fun e w' => ∃ u0_0 : Value, e = .returned (.tuple #[u0_0, .int .i64 r1_x0]) ∧ Ob cN 89 W.heap.size w'.heap.size w' u0_0 r0_x0 ∧ Below W.heap.size W w')) :
    Calls Try.prog 6 #[.agg #[.int .i64 aM_x0, vM_1, vM_2], .int .i64 aX_x0, .agg #[.int .i64 aN_x0, vN_1, vN_2], .int .i64 aY_x0] w fun e w' => e = .returned (.bool true) ∧ Below w.heap.size w w' := by
  rcases Nat.lt_or_ge 1048576 (aM_x1.length + aM_x2.length) with q0 | q0
  · obtain ⟨vM_1_A, vM_1_c, rfl⟩ := hM_1.opn
    obtain ⟨vM_2_A, vM_2_c, rfl⟩ := hM_2.opn
    obtain ⟨vN_1_A, vN_1_c, rfl⟩ := hN_1.opn
    obtain ⟨vN_2_A, vN_2_c, rfl⟩ := hN_2.opn
    have A := Below.refl w.heap.size w
    go_enter Try.func6, Try.ntmps6
    have hb1 := below_alloc' w (.cells #[.int .i64 aM_x0, .slice vM_1_A aM_x1.length vM_1_c, .slice vM_2_A aM_x2.length vM_2_c] 57)
    have y1 := size_alloc' w (.cells #[.int .i64 aM_x0, .slice vM_1_A aM_x1.length vM_1_c, .slice vM_2_A aM_x2.length vM_2_c] 57)
    replace A := A.trans (hb1.mono A.size)
    have z1 := hb1.size
    have b1 := Bk.new w #[.int .i64 aM_x0, .slice vM_1_A aM_x1.length vM_1_c, .slice vM_2_A aM_x2.length vM_2_c] 57
    clear hb1
    have hb2 := below_alloc' (w.alloc (.cells #[.int .i64 aM_x0, .slice vM_1_A aM_x1.length vM_1_c, .slice vM_2_A aM_x2.length vM_2_c] 57)) (.cells #[.int .i64 aN_x0, .slice vN_1_A aN_x1.length vN_1_c, .slice vN_2_A aN_x2.length vN_2_c] 57)
    have y2 := size_alloc' (w.alloc (.cells #[.int .i64 aM_x0, .slice vM_1_A aM_x1.length vM_1_c, .slice vM_2_A aM_x2.length vM_2_c] 57)) (.cells #[.int .i64 aN_x0, .slice vN_1_A aN_x1.length vN_1_c, .slice vN_2_A aN_x2.length vN_2_c] 57)
    replace b1 := b1.below hb2
    replace A := A.trans (hb2.mono A.size)
    have z2 := hb2.size
    have b2 := Bk.new (w.alloc (.cells #[.int .i64 aM_x0, .slice vM_1_A aM_x1.length vM_1_c, .slice vM_2_A aM_x2.length vM_2_c] 57)) #[.int .i64 aN_x0, .slice vN_1_A aN_x1.length vN_1_c, .slice vN_2_A aN_x2.length vN_2_c] 57
    rw [show (w.alloc (.cells #[.int .i64 aM_x0, .slice vM_1_A aM_x1.length vM_1_c, .slice vM_2_A aM_x2.length vM_2_c] 57)).heap.size = w.heap.size + 1 by simp] at b2
    clear hb2
    have b1s := b1.1
    have b1c := b1.2
    have b2s := b2.1
    have b2c := b2.2
    go_wp2_with fail
    clear b1s b1c b2s b2c
    refine (u_sz_Model aM_x0 _ aM_x1 _ aM_x2 _ _ (hM_1.below A) (hM_2.below A) (by omega)).mono ?_
    rintro e w3 ⟨rfl, hb⟩
    replace b1 := b1.below hb
    replace b2 := b2.below hb
    replace A := A.trans (hb.mono A.size)
    have z3 := hb.size
    clear hb
    rw [szL_neg (by omega)]
    have b1s := b1.1
    have b1c := b1.2
    have b2s := b2.1
    have b2c := b2.2
    have BB := Lib.hid A; clear A
    go_wp2
    go_ret
    exact ⟨rfl, BB.out⟩
  rcases Nat.lt_or_ge 1048576 (aM_x1.length + aM_x2.length + aN_x1.length + aN_x2.length) with q1 | q1
  · obtain ⟨vM_1_A, vM_1_c, rfl⟩ := hM_1.opn
    obtain ⟨vM_2_A, vM_2_c, rfl⟩ := hM_2.opn
    obtain ⟨vN_1_A, vN_1_c, rfl⟩ := hN_1.opn
    obtain ⟨vN_2_A, vN_2_c, rfl⟩ := hN_2.opn
    have A := Below.refl w.heap.size w
    go_enter Try.func6, Try.ntmps6
    have hb1 := below_alloc' w (.cells #[.int .i64 aM_x0, .slice vM_1_A aM_x1.length vM_1_c, .slice vM_2_A aM_x2.length vM_2_c] 57)
    have y1 := size_alloc' w (.cells #[.int .i64 aM_x0, .slice vM_1_A aM_x1.length vM_1_c, .slice vM_2_A aM_x2.length vM_2_c] 57)
    replace A := A.trans (hb1.mono A.size)
    have z1 := hb1.size
    have b1 := Bk.new w #[.int .i64 aM_x0, .slice vM_1_A aM_x1.length vM_1_c, .slice vM_2_A aM_x2.length vM_2_c] 57
    clear hb1
    have hb2 := below_alloc' (w.alloc (.cells #[.int .i64 aM_x0, .slice vM_1_A aM_x1.length vM_1_c, .slice vM_2_A aM_x2.length vM_2_c] 57)) (.cells #[.int .i64 aN_x0, .slice vN_1_A aN_x1.length vN_1_c, .slice vN_2_A aN_x2.length vN_2_c] 57)
    have y2 := size_alloc' (w.alloc (.cells #[.int .i64 aM_x0, .slice vM_1_A aM_x1.length vM_1_c, .slice vM_2_A aM_x2.length vM_2_c] 57)) (.cells #[.int .i64 aN_x0, .slice vN_1_A aN_x1.length vN_1_c, .slice vN_2_A aN_x2.length vN_2_c] 57)
    replace b1 := b1.below hb2
    replace A := A.trans (hb2.mono A.size)
    have z2 := hb2.size
    have b2 := Bk.new (w.alloc (.cells #[.int .i64 aM_x0, .slice vM_1_A aM_x1.length vM_1_c, .slice vM_2_A aM_x2.length vM_2_c] 57)) #[.int .i64 aN_x0, .slice vN_1_A aN_x1.length vN_1_c, .slice vN_2_A aN_x2.length vN_2_c] 57
    rw [show (w.alloc (.cells #[.int .i64 aM_x0, .slice vM_1_A aM_x1.length vM_1_c, .slice vM_2_A aM_x2.length vM_2_c] 57)).heap.size = w.heap.size + 1 by simp] at b2
    clear hb2
    have b1s := b1.1
    have b1c := b1.2
    have b2s := b2.1
    have b2c := b2.2
    go_wp2_with fail
    clear b1s b1c b2s b2c
    refine (u_sz_Model aM_x0 _ aM_x1 _ aM_x2 _ _ (hM_1.below A) (hM_2.below A) (by omega)).mono ?_
    rintro e w3 ⟨rfl, hb⟩
    replace b1 := b1.below hb
    replace b2 := b2.below hb
    replace A := A.trans (hb.mono A.size)
    have z3 := hb.size
    clear hb
    rw [szL_pos (by omega)]
    have b1s := b1.1
    have b1c := b1.2
    have b2s := b2.1
    have b2c := b2.2
    go_wp2_with fail
    clear b1s b1c b2s b2c
    refine (u_sz_Model aN_x0 _ aN_x1 _ aN_x2 _ _ (hN_1.below A) (hN_2.below A) (by omega)).mono ?_
    rintro e w4 ⟨rfl, hb⟩
    replace b1 := b1.below hb
    replace b2 := b2.below hb
    replace A := A.trans (hb.mono A.size)
    have z4 := hb.size
    clear hb
    rw [szL_neg (by omega)]
    have b1s := b1.1
    have b1c := b1.2
    have b2s := b2.1
    have b2c := b2.2
    have BB := Lib.hid A; clear A
    go_wp2
    go_ret
    exact ⟨rfl, BB.out⟩
  have HS := Lib.hid (HS.out (by omega))
  have HI := Lib.hid (HI.out (by omega))
  obtain ⟨vM_1_A, vM_1_c, rfl⟩ := hM_1.opn
  obtain ⟨vM_2_A, vM_2_c, rfl⟩ := hM_2.opn
  obtain ⟨vN_1_A, vN_1_c, rfl⟩ := hN_1.opn
  obtain ⟨vN_2_A, vN_2_c, rfl⟩ := hN_2.opn
  have A := Below.refl w.heap.size w
  go_enter Try.func6, Try.ntmps6
  have hb1 := below_alloc' w (.cells #[.int .i64 aM_x0, .slice vM_1_A aM_x1.length vM_1_c, .slice vM_2_A aM_x2.length vM_2_c] 57)
  have y1 := size_alloc' w (.cells #[.int .i64 aM_x0, .slice vM_1_A aM_x1.length vM_1_c, .slice vM_2_A aM_x2.length vM_2_c] 57)
  replace A := A.trans (hb1.mono A.size)
  have z1 := hb1.size
  have b1 := Bk.new w #[.int .i64 aM_x0, .slice vM_1_A aM_x1.length vM_1_c, .slice vM_2_A aM_x2.length vM_2_c] 57
  clear hb1
  have hb2 := below_alloc' (w.alloc (.cells #[.int .i64 aM_x0, .slice vM_1_A aM_x1.length vM_1_c, .slice vM_2_A aM_x2.length vM_2_c] 57)) (.cells #[.int .i64 aN_x0, .slice vN_1_A aN_x1.length vN_1_c, .slice vN_2_A aN_x2.length vN_2_c] 57)
  have y2 := size_alloc' (w.alloc (.cells #[.int .i64 aM_x0, .slice vM_1_A aM_x1.length vM_1_c, .slice vM_2_A aM_x2.length vM_2_c] 57)) (.cells #[.int .i64 aN_x0, .slice vN_1_A aN_x1.length vN_1_c, .slice vN_2_A aN_x2.length vN_2_c] 57)
  replace b1 := b1.below hb2
  replace A := A.trans (hb2.mono A.size)
  have z2 := hb2.size
  have b2 := Bk.new (w.alloc (.cells #[.int .i64 aM_x0, .slice vM_1_A aM_x1.length vM_1_c, .slice vM_2_A aM_x2.length vM_2_c] 57)) #[.int .i64 aN_x0, .slice vN_1_A aN_x1.length vN_1_c, .slice vN_2_A aN_x2.length vN_2_c] 57
  rw [show (w.alloc (.cells #[.int .i64 aM_x0, .slice vM_1_A aM_x1.length vM_1_c, .slice vM_2_A aM_x2.length vM_2_c] 57)).heap.size = w.heap.size + 1 by simp] at b2
  clear hb2
  have b1s := b1.1
  have b1c := b1.2
  have b2s := b2.1
  have b2c := b2.2
  go_wp2_with fail
  clear b1s b1c b2s b2c
  refine (u_sz_Model aM_x0 _ aM_x1 _ aM_x2 _ _ (hM_1.below A) (hM_2.below A) (by omega)).mono ?_
  rintro e w3 ⟨rfl, hb⟩
  replace b1 := b1.below hb
  replace b2 := b2.below hb
  replace A := A.trans (hb.mono A.size)
  have z3 := hb.size
  clear hb
  rw [szL_pos (by omega)]
  have b1s := b1.1
  have b1c := b1.2
  have b2s := b2.1
  have b2c := b2.2
  go_wp2_with fail
  clear b1s b1c b2s b2c
  refine (u_sz_Model aN_x0 _ aN_x1 _ aN_x2 _ _ (hN_1.below A) (hN_2.below A) (by omega)).mono ?_
  rintro e w4 ⟨rfl, hb⟩
  replace b1 := b1.below hb
  replace b2 := b2.below hb
  replace A := A.trans (hb.mono A.size)
  have z4 := hb.size
  clear hb
  rw [szL_pos (by omega)]
  have b1s := b1.1
  have b1c := b1.2
  have b2s := b2.1
  have b2c := b2.2
  go_wp2_with fail
  clear b1s b1c b2s b2c
  have cM_0 : w4.cell? ⟨w.heap.size, 0, none⟩ = some (.int .i64 aM_x0) := b1.2 0
  have cM_1 : w4.cell? ⟨w.heap.size, 1, none⟩ = some (.slice vM_1_A aM_x1.length vM_1_c) := b1.2 1
  have cM_2 : w4.cell? ⟨w.heap.size, 2, none⟩ = some (.slice vM_2_A aM_x2.length vM_2_c) := b1.2 2
  have lM := b1.1
  have cN_0 : w4.cell? ⟨w.heap.size + 1, 0, none⟩ = some (.int .i64 aN_x0) := b2.2 0
  have cN_1 : w4.cell? ⟨w.heap.size + 1, 1, none⟩ = some (.slice vN_1_A aN_x1.length vN_1_c) := b2.2 1
  have cN_2 : w4.cell? ⟨w.heap.size + 1, 2, none⟩ = some (.slice vN_2_A aN_x2.length vN_2_c) := b2.2 2
  have lN := b2.1
  have hI := (Below.refl w4.heap.size w4).drew
  refine wp_region_sched (Below w4.heap.size w4) 12 [0, 2, 3, 5, 7, 8, 9, 10, 11] [0, 2, 3, 5, 1, 4, 6, 7, 8, 9, 10, 11] (by kernel_rfl) (by kernel_rfl) hI ?_
  repeat
    apply wpSched_q rfl rfl
    case h =>
      intro w' hI K hK
      have cM_0' := (hI.cell (p := ⟨w.heap.size, 0, none⟩) lM).trans cM_0
      have cM_1' := (hI.cell (p := ⟨w.heap.size, 1, none⟩) lM).trans cM_1
      have cM_2' := (hI.cell (p := ⟨w.heap.size, 2, none⟩) lM).trans cM_2
      have cN_0' := (hI.cell (p := ⟨w.heap.size + 1, 0, none⟩) lN).trans cN_0
      have cN_1' := (hI.cell (p := ⟨w.heap.size + 1, 1, none⟩) lN).trans cN_1
      have cN_2' := (hI.cell (p := ⟨w.heap.size + 1, 2, none⟩) lN).trans cN_2
      simp only [quietV, stillV]
      go_simp
      exact hK
    go_simp
  clear cM_0 cM_1 cM_2 cN_0 cN_1 cN_2 lM lN
  replace b1 := b1.below hI
  replace b2 := b2.below hI
  replace A := A.trans (hI.mono A.size)
  have z5 := hI.size
  refine wpSched_r rfl rfl ?_ hI
  intro K hK _
  go_simp
  refine (u_to_Model aM_x0 _ aM_x1 _ aM_x2 _ (hM_1.below A) (hM_2.below A) (by omega)).mono ?_
  rintro e w6 ⟨tM_v1, tM_v2, H6_, rfl, hH6_a, hH6_b, o6_1, o6_2, hb⟩
  obtain ⟨tM_v1_A, tM_v1_c, rfl⟩ := o6_1.opn
  obtain ⟨tM_v2_A, tM_v2_c, rfl⟩ := o6_2.opn
  replace hI := hI.trans (hb.mono hI.size)
  refine hK _ _ hI ?_
  clear hK K
  replace b1 := b1.below hb
  replace b2 := b2.below hb
  replace A := A.trans (hb.mono A.size)
  have z6 := hb.size
  clear hb
  refine wpSched_r rfl rfl ?_ hI
  intro K hK _
  go_simp
  refine (u_to_Model aN_x0 _ aN_x1 _ aN_x2 _ (hN_1.below A) (hN_2.below A) (by omega)).mono ?_
  rintro e w7 ⟨tN_v1, tN_v2, H7_, rfl, hH7_a, hH7_b, o7_1, o7_2, hb⟩
  obtain ⟨tN_v1_A, tN_v1_c, rfl⟩ := o7_1.opn
  obtain ⟨tN_v2_A, tN_v2_c, rfl⟩ := o7_2.opn
  replace hI := hI.trans (hb.mono hI.size)
  refine hK _ _ hI ?_
  clear hK K
  replace o6_1 := o6_1.below hb
  replace o6_2 := o6_2.below hb
  replace b1 := b1.below hb
  replace b2 := b2.below hb
  replace A := A.trans (hb.mono A.size)
  have z7 := hb.size
  clear hb
  refine wpSched_r rfl rfl ?_ hI
  intro K hK _
  go_simp
  refine (HS.out _ _ _ _ _ o6_1.sl o6_2.sl o7_1.sl o7_2.sl).mono ?_
  rintro e w8 ⟨w0_v0, rfl, r8_w0_0, hb⟩
  replace hI := hI.trans (hb.mono hI.size)
  refine hK _ _ hI ?_
  clear hK K
  replace o6_1 := o6_1.below hb
  replace o6_2 := o6_2.below hb
  replace o7_1 := o7_1.below hb
  replace o7_2 := o7_2.below hb
  replace b1 := b1.below hb
  replace b2 := b2.below hb
  replace A := A.trans (hb.mono A.size)
  have z8 := hb.size
  clear hb
  repeat
    apply wpSched_q rfl rfl
    case h =>
      intro w' hI K hK
      simp only [quietV, stillV]
      go_simp
      exact hK
    go_simp
  refine wpSched_nil ?_
  try simp only [List.drop_succ_cons, List.drop_zero, List.drop_nil]
  clear hI
  clear o6_1
  clear o6_2
  clear o7_1
  clear o7_2
  have b1s := b1.1
  have b1c := b1.2
  have b2s := b2.1
  have b2c := b2.2
  go_wp2_with fail
  clear b1s b1c b2s b2c
  refine (u_to_Model aM_x0 _ aM_x1 _ aM_x2 _ (hM_1.below A) (hM_2.below A) (by omega)).mono ?_
  rintro e w9 ⟨xM_v1, xM_v2, H9_, rfl, hH9_a, hH9_b, o9_1, o9_2, hb⟩
  replace r8_w0_0 := r8_w0_0.below hb
  replace b1 := b1.below hb
  replace b2 := b2.below hb
  replace A := A.trans (hb.mono A.size)
  have z9 := hb.size
  clear hb
  obtain ⟨xM_v1_A, xM_v1_c, rfl⟩ := o9_1.opn
  obtain ⟨xM_v2_A, xM_v2_c, rfl⟩ := o9_2.opn
  have hb10 := below_alloc' w9 (.cells #[.int .i64 aM_x0, .slice xM_v1_A aM_x1.length xM_v1_c, .slice xM_v2_A aM_x2.length xM_v2_c] 62)
  have y10 := size_alloc' w9 (.cells #[.int .i64 aM_x0, .slice xM_v1_A aM_x1.length xM_v1_c, .slice xM_v2_A aM_x2.length xM_v2_c] 62)
  replace r8_w0_0 := r8_w0_0.below hb10
  replace o9_1 := o9_1.below hb10
  replace o9_2 := o9_2.below hb10
  replace b1 := b1.below hb10
  replace b2 := b2.below hb10
  replace A := A.trans (hb10.mono A.size)
  have z10 := hb10.size
  have b10 := Bk.new w9 #[.int .i64 aM_x0, .slice xM_v1_A aM_x1.length xM_v1_c, .slice xM_v2_A aM_x2.length xM_v2_c] 62
  clear hb10
  have b1s := b1.1
  have b1c := b1.2
  have b2s := b2.1
  have b2c := b2.2
  have b10s := b10.1
  have b10c := b10.2
  go_wp2_with fail
  clear b1s b1c b2s b2c b10s b10c
  refine (u_to_Model aN_x0 _ aN_x1 _ aN_x2 _ (hN_1.below A) (hN_2.below A) (by omega)).mono ?_
  rintro e w11 ⟨xN_v1, xN_v2, H11_, rfl, hH11_a, hH11_b, o11_1, o11_2, hb⟩
  replace r8_w0_0 := r8_w0_0.below hb
  replace o9_1 := o9_1.below hb
  replace o9_2 := o9_2.below hb
  replace b1 := b1.below hb
  replace b2 := b2.below hb
  replace b10 := b10.below hb
  replace A := A.trans (hb.mono A.size)
  have z11 := hb.size
  clear hb
  obtain ⟨xN_v1_A, xN_v1_c, rfl⟩ := o11_1.opn
  obtain ⟨xN_v2_A, xN_v2_c, rfl⟩ := o11_2.opn
  have hb12 := below_alloc' w11 (.cells #[.int .i64 aN_x0, .slice xN_v1_A aN_x1.length xN_v1_c, .slice xN_v2_A aN_x2.length xN_v2_c] 62)
  have y12 := size_alloc' w11 (.cells #[.int .i64 aN_x0, .slice xN_v1_A aN_x1.length xN_v1_c, .slice xN_v2_A aN_x2.length xN_v2_c] 62)
  replace r8_w0_0 := r8_w0_0.below hb12
  replace o9_1 := o9_1.below hb12
  replace o9_2 := o9_2.below hb12
  replace o11_1 := o11_1.below hb12
  replace o11_2 := o11_2.below hb12
  replace b1 := b1.below hb12
  replace b2 := b2.below hb12
  replace b10 := b10.below hb12
  replace A := A.trans (hb12.mono A.size)
  have z12 := hb12.size
  have b12 := Bk.new w11 #[.int .i64 aN_x0, .slice xN_v1_A aN_x1.length xN_v1_c, .slice xN_v2_A aN_x2.length xN_v2_c] 62
  clear hb12
  have b1s := b1.1
  have b1c := b1.2
  have b2s := b2.1
  have b2c := b2.2
  have b10s := b10.1
  have b10c := b10.2
  have b12s := b12.1
  have b12c := b12.2
  go_wp2_with fail
  clear b1s b1c b2s b2c b10s b10c b12s b12c
  refine (HI.out _ _ _ _ _ o9_1.sl o9_2.sl o11_1.sl o11_2.sl).mono ?_
  rintro e w13 ⟨g0_v0, rfl, r13_g0_0, hb⟩
  replace r8_w0_0 := r8_w0_0.below hb
  replace o9_1 := o9_1.below hb
  replace o9_2 := o9_2.below hb
  replace o11_1 := o11_1.below hb
  replace o11_2 := o11_2.below hb
  replace b1 := b1.below hb
  replace b2 := b2.below hb
  replace b10 := b10.below hb
  replace b12 := b12.below hb
  replace A := A.trans (hb.mono A.size)
  have z13 := hb.size
  clear hb
  have b1s := b1.1
  have b1c := b1.2
  have b2s := b2.1
  have b2c := b2.2
  have b10s := b10.1
  have b10c := b10.2
  have b12s := b12.1
  have b12c := b12.2
  go_wp2_with fail
  clear b1s b1c b2s b2c b10s b10c b12s b12c
  refine (u_eq_SN _ _ r0_x0 _ r13_g0_0.sl r8_w0_0.sl (by omega)).mono ?_
  rintro e w14 ⟨rfl, hb⟩
  replace r8_w0_0 := r8_w0_0.below hb
  replace o9_1 := o9_1.below hb
  replace o9_2 := o9_2.below hb
  replace o11_1 := o11_1.below hb
  replace o11_2 := o11_2.below hb
  replace r13_g0_0 := r13_g0_0.below hb
  replace b1 := b1.below hb
  replace b2 := b2.below hb
  replace b10 := b10.below hb
  replace b12 := b12.below hb
  replace A := A.trans (hb.mono A.size)
  have z14 := hb.size
  clear hb
  have b1s := b1.1
  have b1c := b1.2
  have b2s := b2.1
  have b2c := b2.2
  have b10s := b10.1
  have b10c := b10.2
  have b12s := b12.1
  have b12c := b12.2
  go_wp2_with fail
  clear b1s b1c b2s b2c b10s b10c b12s b12c
  have hq16_1 := hM_1.below A
  have hq16_2 := hM_2.below A
  have c0 : w14.cell? ⟨w9.heap.size, 0, none⟩ = some (.int .i64 aM_x0) := b10.2 0
  have c1 : w14.cell? ⟨w9.heap.size, 1, none⟩ = some (.slice xM_v1_A aM_x1.length xM_v1_c) := b10.2 1
  have c2 : w14.cell? ⟨w9.heap.size, 2, none⟩ = some (.slice xM_v2_A aM_x2.length xM_v2_c) := b10.2 2
  have d0 : w14.cell? ⟨w.heap.size, 0, none⟩ = some (.int .i64 aM_x0) := b1.2 0
  have d1 : w14.cell? ⟨w.heap.size, 1, none⟩ = some (.slice vM_1_A aM_x1.length vM_1_c) := b1.2 1
  have d2 : w14.cell? ⟨w.heap.size, 2, none⟩ = some (.slice vM_2_A aM_x2.length vM_2_c) := b1.2 2
  go_region_held3 (fun w' => w'.cell? ⟨w9.heap.size, 0, none⟩ = some (.int .i64 aM_x0) ∧ w'.cell? ⟨w9.heap.size, 1, none⟩ = some (.slice xM_v1_A aM_x1.length xM_v1_c) ∧ w'.cell? ⟨w9.heap.size, 2, none⟩ = some (.slice xM_v2_A aM_x2.length xM_v2_c) ∧ w'.cell? ⟨w.heap.size, 0, none⟩ = some (.int .i64 aM_x0) ∧ w'.cell? ⟨w.heap.size, 1, none⟩ = some (.slice vM_1_A aM_x1.length vM_1_c) ∧ w'.cell? ⟨w.heap.size, 2, none⟩ = some (.slice vM_2_A aM_x2.length vM_2_c)) (first | exact ⟨c0'', c1'', c2'', d0'', d1'', d2''⟩ | exact ⟨c0', c1', c2', d0', d1', d2'⟩ | exact ⟨c0, c1, c2, d0, d1, d2⟩ | (simp [*]; done)) (first | (go_at_call 34; refine (u_to_Model aM_x0 _ aM_x1 _ aM_x2 _ (hq16_1.below (below_drewN (Below.refl _ _) 1)) (hq16_2.below (below_drewN (Below.refl _ _) 1)) (by omega)).mono ?_; rintro e w15 ⟨y16_1, y16_2, Hy16_, rfl, hHy16_a, hHy16_b, oy16_1, oy16_2, hbP⟩; obtain ⟨y16_1_A, y16_1_c, rfl⟩ := oy16_1.opn; obtain ⟨y16_2_A, y16_2_c, rfl⟩ := oy16_2.opn; have hbP1 : Below w14.heap.size w14 w15 := (below_drewN (Below.refl _ _) 1).trans hbP; have c0' := (hbP1.cell (p := ⟨w9.heap.size, 0, none⟩) b10.1).trans c0; have c1' := (hbP1.cell (p := ⟨w9.heap.size, 1, none⟩) b10.1).trans c1; have c2' := (hbP1.cell (p := ⟨w9.heap.size, 2, none⟩) b10.1).trans c2; have d0' := (hbP1.cell (p := ⟨w.heap.size, 0, none⟩) b1.1).trans d0; have d1' := (hbP1.cell (p := ⟨w.heap.size, 1, none⟩) b1.1).trans d1; have d2' := (hbP1.cell (p := ⟨w.heap.size, 2, none⟩) b1.1).trans d2) | (go_at_call 36; refine (u_eq_Model aM_x0 _ _ aM_x1 _ _ aM_x2 _ (o9_1.below hbP1).sl (o9_2.below hbP1).sl oy16_1.sl oy16_2.sl (by omega)).mono ?_; rintro e w16 ⟨rfl, hbQ⟩; have c0'' := (hbQ.cell (p := ⟨w9.heap.size, 0, none⟩) (b10.below hbP1).1).trans c0'; have c1'' := (hbQ.cell (p := ⟨w9.heap.size, 1, none⟩) (b10.below hbP1).1).trans c1'; have c2'' := (hbQ.cell (p := ⟨w9.heap.size, 2, none⟩) (b10.below hbP1).1).trans c2'; have d0'' := (hbQ.cell (p := ⟨w.heap.size, 0, none⟩) (b1.below hbP1).1).trans d0'; have d1'' := (hbQ.cell (p := ⟨w.heap.size, 1, none⟩) (b1.below hbP1).1).trans d1'; have d2'' := (hbQ.cell (p := ⟨w.heap.size, 2, none⟩) (b1.below hbP1).1).trans d2'))
  have hb := bthen hbP1 hbQ
  clear c0'' c0' c0 c1'' c1' c1 c2'' c2' c2 d0'' d0' d0 d1'' d1' d1 d2'' d2' d2
  clear hbP hbQ hbP1 oy16_1 oy16_2
  clear hq16_1
  clear hq16_2
  replace r8_w0_0 := r8_w0_0.below hb
  replace o9_1 := o9_1.below hb
  replace o9_2 := o9_2.below hb
  replace o11_1 := o11_1.below hb
  replace o11_2 := o11_2.below hb
  replace r13_g0_0 := r13_g0_0.below hb
  replace b1 := b1.below hb
  replace b2 := b2.below hb
  replace b10 := b10.below hb
  replace b12 := b12.below hb
  replace A := A.trans (hb.mono A.size)
  have z16 := hb.size
  clear hb
  have b1s := b1.1
  have b1c := b1.2
  have b2s := b2.1
  have b2c := b2.2
  have b10s := b10.1
  have b10c := b10.2
  have b12s := b12.1
  have b12c := b12.2
  go_wp2_with fail
  clear b1s b1c b2s b2c b10s b10c b12s b12c
  have hq18_1 := hN_1.below A
  have hq18_2 := hN_2.below A
  have c0 : w16.cell? ⟨w11.heap.size, 0, none⟩ = some (.int .i64 aN_x0) := b12.2 0
  have c1 : w16.cell? ⟨w11.heap.size, 1, none⟩ = some (.slice xN_v1_A aN_x1.length xN_v1_c) := b12.2 1
  have c2 : w16.cell? ⟨w11.heap.size, 2, none⟩ = some (.slice xN_v2_A aN_x2.length xN_v2_c) := b12.2 2
  have d0 : w16.cell? ⟨w.heap.size + 1, 0, none⟩ = some (.int .i64 aN_x0) := b2.2 0
  have d1 : w16.cell? ⟨w.heap.size + 1, 1, none⟩ = some (.slice vN_1_A aN_x1.length vN_1_c) := b2.2 1
  have d2 : w16.cell? ⟨w.heap.size + 1, 2, none⟩ = some (.slice vN_2_A aN_x2.length vN_2_c) := b2.2 2
  go_region_held3 (fun w' => w'.cell? ⟨w11.heap.size, 0, none⟩ = some (.int .i64 aN_x0) ∧ w'.cell? ⟨w11.heap.size, 1, none⟩ = some (.slice xN_v1_A aN_x1.length xN_v1_c) ∧ w'.cell? ⟨w11.heap.size, 2, none⟩ = some (.slice xN_v2_A aN_x2.length xN_v2_c) ∧ w'.cell? ⟨w.heap.size + 1, 0, none⟩ = some (.int .i64 aN_x0) ∧ w'.cell? ⟨w.heap.size + 1, 1, none⟩ = some (.slice vN_1_A aN_x1.length vN_1_c) ∧ w'.cell? ⟨w.heap.size + 1, 2, none⟩ = some (.slice vN_2_A aN_x2.length vN_2_c)) (first | exact ⟨c0'', c1'', c2'', d0'', d1'', d2''⟩ | exact ⟨c0', c1', c2', d0', d1', d2'⟩ | exact ⟨c0, c1, c2, d0, d1, d2⟩ | (simp [*]; done)) (first | (go_at_call 34; refine (u_to_Model aN_x0 _ aN_x1 _ aN_x2 _ (hq18_1.below (below_drewN (Below.refl _ _) 1)) (hq18_2.below (below_drewN (Below.refl _ _) 1)) (by omega)).mono ?_; rintro e w17 ⟨y18_1, y18_2, Hy18_, rfl, hHy18_a, hHy18_b, oy18_1, oy18_2, hbP⟩; obtain ⟨y18_1_A, y18_1_c, rfl⟩ := oy18_1.opn; obtain ⟨y18_2_A, y18_2_c, rfl⟩ := oy18_2.opn; have hbP1 : Below w16.heap.size w16 w17 := (below_drewN (Below.refl _ _) 1).trans hbP; have c0' := (hbP1.cell (p := ⟨w11.heap.size, 0, none⟩) b12.1).trans c0; have c1' := (hbP1.cell (p := ⟨w11.heap.size, 1, none⟩) b12.1).trans c1; have c2' := (hbP1.cell (p := ⟨w11.heap.size, 2, none⟩) b12.1).trans c2; have d0' := (hbP1.cell (p := ⟨w.heap.size + 1, 0, none⟩) b2.1).trans d0; have d1' := (hbP1.cell (p := ⟨w.heap.size + 1, 1, none⟩) b2.1).trans d1; have d2' := (hbP1.cell (p := ⟨w.heap.size + 1, 2, none⟩) b2.1).trans d2) | (go_at_call 36; refine (u_eq_Model aN_x0 _ _ aN_x1 _ _ aN_x2 _ (o11_1.below hbP1).sl (o11_2.below hbP1).sl oy18_1.sl oy18_2.sl (by omega)).mono ?_; rintro e w18 ⟨rfl, hbQ⟩; have c0'' := (hbQ.cell (p := ⟨w11.heap.size, 0, none⟩) (b12.below hbP1).1).trans c0'; have c1'' := (hbQ.cell (p := ⟨w11.heap.size, 1, none⟩) (b12.below hbP1).1).trans c1'; have c2'' := (hbQ.cell (p := ⟨w11.heap.size, 2, none⟩) (b12.below hbP1).1).trans c2'; have d0'' := (hbQ.cell (p := ⟨w.heap.size + 1, 0, none⟩) (b2.below hbP1).1).trans d0'; have d1'' := (hbQ.cell (p := ⟨w.heap.size + 1, 1, none⟩) (b2.below hbP1).1).trans d1'; have d2'' := (hbQ.cell (p := ⟨w.heap.size + 1, 2, none⟩) (b2.below hbP1).1).trans d2'))
  have hb := bthen hbP1 hbQ
  clear c0'' c0' c0 c1'' c1' c1 c2'' c2' c2 d0'' d0' d0 d1'' d1' d1 d2'' d2' d2
  clear hbP hbQ hbP1 oy18_1 oy18_2
  clear hq18_1
  clear hq18_2
  replace r8_w0_0 := r8_w0_0.below hb
  replace o9_1 := o9_1.below hb
  replace o9_2 := o9_2.below hb
  replace o11_1 := o11_1.below hb
  replace o11_2 := o11_2.below hb
  replace r13_g0_0 := r13_g0_0.below hb
  replace b1 := b1.below hb
  replace b2 := b2.below hb
  replace b10 := b10.below hb
  replace b12 := b12.below hb
  replace A := A.trans (hb.mono A.size)
  have z18 := hb.size
  clear hb
  have b1s := b1.1
  have b1c := b1.2
  have b2s := b2.1
  have b2c := b2.2
  have b10s := b10.1
  have b10c := b10.2
  have b12s := b12.1
  have b12c := b12.2
  go_wp2_with fail
  clear b1s b1c b2s b2c b10s b10c b12s b12c
  refine (u_mark_Model aM_x0 _ aM_x1 _ aM_x2 _ _ _ _ _ o9_1 o9_2 (by omega) (by omega) (by omega)).mono ?_
  rintro e w19 ⟨rfl, no9_1, no9_2, hk⟩
  replace r8_w0_0 := r8_w0_0.keep hk (by omega)
  replace o11_1 := o11_1.keep hk (by omega)
  replace o11_2 := o11_2.keep hk (by omega)
  replace r13_g0_0 := r13_g0_0.keep hk (by omega)
  clear o9_1; have o9_1 := no9_1; clear no9_1
  clear o9_2; have o9_2 := no9_2; clear no9_2
  replace b1 := b1.keep hk (by omega)
  replace b2 := b2.keep hk (by omega)
  replace b10 := b10.keep hk (by omega)
  replace b12 := b12.keep hk (by omega)
  replace A := below_keep A hk (by omega) A.size
  have z19 := hk.size
  clear hk
  have b1s := b1.1
  have b1c := b1.2
  have b2s := b2.1
  have b2c := b2.2
  have b10s := b10.1
  have b10c := b10.2
  have b12s := b12.1
  have b12c := b12.2
  go_wp2_with fail
  clear b1s b1c b2s b2c b10s b10c b12s b12c
  refine (u_mark_Model aN_x0 _ aN_x1 _ aN_x2 _ _ _ _ _ o11_1 o11_2 (by omega) (by omega) (by omega)).mono ?_
  rintro e w20 ⟨rfl, no11_1, no11_2, hk⟩
  replace r8_w0_0 := r8_w0_0.keep hk (by omega)
  replace o9_1 := o9_1.keep hk (by omega)
  replace o9_2 := o9_2.keep hk (by omega)
  replace r13_g0_0 := r13_g0_0.keep hk (by omega)
  clear o11_1; have o11_1 := no11_1; clear no11_1
  clear o11_2; have o11_2 := no11_2; clear no11_2
  replace b1 := b1.keep hk (by omega)
  replace b2 := b2.keep hk (by omega)
  replace b10 := b10.keep hk (by omega)
  replace b12 := b12.keep hk (by omega)
  replace A := below_keep A hk (by omega) A.size
  have z20 := hk.size
  clear hk
  have b1s := b1.1
  have b1c := b1.2
  have b2s := b2.1
  have b2c := b2.2
  have b10s := b10.1
  have b10c := b10.2
  have b12s := b12.1
  have b12c := b12.2
  go_wp2_with fail
  clear b1s b1c b2s b2c b10s b10c b12s b12c
  refine (u_eq_SN _ _ r0_x0 _ r13_g0_0.sl r8_w0_0.sl (by omega)).mono ?_
  rintro e w21 ⟨rfl, hb⟩
  replace r8_w0_0 := r8_w0_0.below hb
  replace o9_1 := o9_1.below hb
  replace o9_2 := o9_2.below hb
  replace o11_1 := o11_1.below hb
  replace o11_2 := o11_2.below hb
  replace r13_g0_0 := r13_g0_0.below hb
  replace b1 := b1.below hb
  replace b2 := b2.below hb
  replace b10 := b10.below hb
  replace b12 := b12.below hb
  replace A := A.trans (hb.mono A.size)
  have z21 := hb.size
  clear hb
  clear o9_1
  clear o9_2
  clear o11_1
  clear o11_2
  have b1s := b1.1
  have b1c := b1.2
  have b2s := b2.1
  have b2c := b2.2
  have b10s := b10.1
  have b10c := b10.2
  have b12s := b12.1
  have b12c := b12.2
  go_wp2_with fail
  clear b1s b1c b2s b2c b10s b10c b12s b12c
  refine (u_mark_SN _ r0_x0 _ _ _ _ r13_g0_0 (by omega) (by omega)).mono ?_
  rintro e w22 ⟨rfl, nr13_g0_0, hk⟩
  replace r8_w0_0 := r8_w0_0.keep hk (by omega)
  clear r13_g0_0; have r13_g0_0 := nr13_g0_0; clear nr13_g0_0
  replace b1 := b1.keep hk (by omega)
  replace b2 := b2.keep hk (by omega)
  replace b10 := b10.keep hk (by omega)
  replace b12 := b12.keep hk (by omega)
  replace A := below_keep A hk (by omega) A.size
  have z22 := hk.size
  clear hk
  have b1s := b1.1
  have b1c := b1.2
  have b2s := b2.1
  have b2c := b2.2
  have b10s := b10.1
  have b10c := b10.2
  have b12s := b12.1
  have b12c := b12.2
  go_wp2_with fail
  clear b1s b1c b2s b2c b10s b10c b12s b12c
  refine (u_held_SN _ r0_x0.length _ _ r13_g0_0.sl (by omega) (by omega)).mono ?_
  rintro e w23 ⟨rfl, hb⟩
  replace r8_w0_0 := r8_w0_0.below hb
  replace r13_g0_0 := r13_g0_0.below hb
  replace b1 := b1.below hb
  replace b2 := b2.below hb
  replace b10 := b10.below hb
  replace b12 := b12.below hb
  replace A := A.trans (hb.mono A.size)
  have z23 := hb.size
  clear hb
  have b1s := b1.1
  have b1c := b1.2
  have b2s := b2.1
  have b2c := b2.2
  have b10s := b10.1
  have b10c := b10.2
  have b12s := b12.1
  have b12c := b12.2
  go_wp2_with fail
  clear b1s b1c b2s b2c b10s b10c b12s b12c
  have cM_0 : w23.cell? ⟨w.heap.size, 0, none⟩ = some (.int .i64 aM_x0) := b1.2 0
  have cM_1 : w23.cell? ⟨w.heap.size, 1, none⟩ = some (.slice vM_1_A aM_x1.length vM_1_c) := b1.2 1
  have cM_2 : w23.cell? ⟨w.heap.size, 2, none⟩ = some (.slice vM_2_A aM_x2.length vM_2_c) := b1.2 2
  have lM := b1.1
  have cN_0 : w23.cell? ⟨w.heap.size + 1, 0, none⟩ = some (.int .i64 aN_x0) := b2.2 0
  have cN_1 : w23.cell? ⟨w.heap.size + 1, 1, none⟩ = some (.slice vN_1_A aN_x1.length vN_1_c) := b2.2 1
  have cN_2 : w23.cell? ⟨w.heap.size + 1, 2, none⟩ = some (.slice vN_2_A aN_x2.length vN_2_c) := b2.2 2
  have lN := b2.1
  have hI := (Below.refl w23.heap.size w23).drew
  refine wp_region_sched (Below w23.heap.size w23) 12 [0, 2, 3, 5, 7, 8, 9, 10, 11] [0, 2, 3, 5, 1, 4, 6, 7, 8, 9, 10, 11] (by kernel_rfl) (by kernel_rfl) hI ?_
  repeat
    apply wpSched_q rfl rfl
    case h =>
      intro w' hI K hK
      have cM_0' := (hI.cell (p := ⟨w.heap.size, 0, none⟩) lM).trans cM_0
      have cM_1' := (hI.cell (p := ⟨w.heap.size, 1, none⟩) lM).trans cM_1
      have cM_2' := (hI.cell (p := ⟨w.heap.size, 2, none⟩) lM).trans cM_2
      have cN_0' := (hI.cell (p := ⟨w.heap.size + 1, 0, none⟩) lN).trans cN_0
      have cN_1' := (hI.cell (p := ⟨w.heap.size + 1, 1, none⟩) lN).trans cN_1
      have cN_2' := (hI.cell (p := ⟨w.heap.size + 1, 2, none⟩) lN).trans cN_2
      simp only [quietV, stillV]
      go_simp
      exact hK
    go_simp
  clear cM_0 cM_1 cM_2 cN_0 cN_1 cN_2 lM lN
  replace r8_w0_0 := r8_w0_0.below hI
  replace r13_g0_0 := r13_g0_0.below hI
  replace b1 := b1.below hI
  replace b2 := b2.below hI
  replace b10 := b10.below hI
  replace b12 := b12.below hI
  replace A := A.trans (hI.mono A.size)
  have z24 := hI.size
  refine wpSched_r rfl rfl ?_ hI
  intro K hK _
  go_simp
  refine (u_to_Model aM_x0 _ aM_x1 _ aM_x2 _ (hM_1.below A) (hM_2.below A) (by omega)).mono ?_
  rintro e w25 ⟨sM_v1, sM_v2, H25_, rfl, hH25_a, hH25_b, o25_1, o25_2, hb⟩
  obtain ⟨sM_v1_A, sM_v1_c, rfl⟩ := o25_1.opn
  obtain ⟨sM_v2_A, sM_v2_c, rfl⟩ := o25_2.opn
  replace hI := hI.trans (hb.mono hI.size)
  refine hK _ _ hI ?_
  clear hK K
  replace r8_w0_0 := r8_w0_0.below hb
  replace r13_g0_0 := r13_g0_0.below hb
  replace b1 := b1.below hb
  replace b2 := b2.below hb
  replace b10 := b10.below hb
  replace b12 := b12.below hb
  replace A := A.trans (hb.mono A.size)
  have z25 := hb.size
  clear hb
  refine wpSched_r rfl rfl ?_ hI
  intro K hK _
  go_simp
  refine (u_to_Model aN_x0 _ aN_x1 _ aN_x2 _ (hN_1.below A) (hN_2.below A) (by omega)).mono ?_
  rintro e w26 ⟨sN_v1, sN_v2, H26_, rfl, hH26_a, hH26_b, o26_1, o26_2, hb⟩
  obtain ⟨sN_v1_A, sN_v1_c, rfl⟩ := o26_1.opn
  obtain ⟨sN_v2_A, sN_v2_c, rfl⟩ := o26_2.opn
  replace hI := hI.trans (hb.mono hI.size)
  refine hK _ _ hI ?_
  clear hK K
  replace r8_w0_0 := r8_w0_0.below hb
  replace r13_g0_0 := r13_g0_0.below hb
  replace o25_1 := o25_1.below hb
  replace o25_2 := o25_2.below hb
  replace b1 := b1.below hb
  replace b2 := b2.below hb
  replace b10 := b10.below hb
  replace b12 := b12.below hb
  replace A := A.trans (hb.mono A.size)
  have z26 := hb.size
  clear hb
  refine wpSched_r rfl rfl ?_ hI
  intro K hK _
  go_simp
  refine (HI.out _ _ _ _ _ o25_1.sl o25_2.sl o26_1.sl o26_2.sl).mono ?_
  rintro e w27 ⟨h0_v0, rfl, r27_h0_0, hb⟩
  replace hI := hI.trans (hb.mono hI.size)
  refine hK _ _ hI ?_
  clear hK K
  replace r8_w0_0 := r8_w0_0.below hb
  replace r13_g0_0 := r13_g0_0.below hb
  replace o25_1 := o25_1.below hb
  replace o25_2 := o25_2.below hb
  replace o26_1 := o26_1.below hb
  replace o26_2 := o26_2.below hb
  replace b1 := b1.below hb
  replace b2 := b2.below hb
  replace b10 := b10.below hb
  replace b12 := b12.below hb
  replace A := A.trans (hb.mono A.size)
  have z27 := hb.size
  clear hb
  repeat
    apply wpSched_q rfl rfl
    case h =>
      intro w' hI K hK
      simp only [quietV, stillV]
      go_simp
      exact hK
    go_simp
  refine wpSched_nil ?_
  try simp only [List.drop_succ_cons, List.drop_zero, List.drop_nil]
  clear hI
  clear o25_1
  clear o25_2
  clear o26_1
  clear o26_2
  have b1s := b1.1
  have b1c := b1.2
  have b2s := b2.1
  have b2c := b2.2
  have b10s := b10.1
  have b10c := b10.2
  have b12s := b12.1
  have b12c := b12.2
  go_wp2_with fail
  clear b1s b1c b2s b2c b10s b10c b12s b12c
  refine (u_eq_SN _ _ r0_x0 _ r27_h0_0.sl r8_w0_0.sl (by omega)).mono ?_
  rintro e w28 ⟨rfl, hb⟩
  replace r8_w0_0 := r8_w0_0.below hb
  replace r13_g0_0 := r13_g0_0.below hb
  replace r27_h0_0 := r27_h0_0.below hb
  replace b1 := b1.below hb
  replace b2 := b2.below hb
  replace b10 := b10.below hb
  replace b12 := b12.below hb
  replace A := A.trans (hb.mono A.size)
  have z28 := hb.size
  clear hb
  have b1s := b1.1
  have b1c := b1.2
  have b2s := b2.1
  have b2c := b2.2
  have b10s := b10.1
  have b10c := b10.2
  have b12s := b12.1
  have b12c := b12.2
  go_wp2_with fail
  clear b1s b1c b2s b2c b10s b10c b12s b12c
  refine (u_held_SN _ r0_x0.length _ _ r13_g0_0.sl (by omega) (by omega)).mono ?_
  rintro e w29 ⟨rfl, hb⟩
  replace r8_w0_0 := r8_w0_0.below hb
  replace r13_g0_0 := r13_g0_0.below hb
  replace r27_h0_0 := r27_h0_0.below hb
  replace b1 := b1.below hb
  replace b2 := b2.below hb
  replace b10 := b10.below hb
  replace b12 := b12.below hb
  replace A := A.trans (hb.mono A.size)
  have z29 := hb.size
  clear hb
  have b1s := b1.1
  have b1c := b1.2
  have b2s := b2.1
  have b2c := b2.2
  have b10s := b10.1
  have b10c := b10.2
  have b12s := b12.1
  have b12c := b12.2
  have BB := Lib.hid A; clear A
  clear r8_w0_0 r13_g0_0 r27_h0_0
  go_wp2
  go_ret
  exact ⟨rfl, BB.out⟩
theorem tell_opn {va vu : Value} {ns us : List Nat} {w : World} (ha : Sl cI w va (li ns)) (hu : Sl cI w vu (li us)) (h6 : us.length = 6) : ∃ A0 c0 A1 c1, va = .slice A0 ns.length c0 ∧ vu = .slice A1 6 c1 := by
  obtain ⟨A0, c0, rfl⟩ := ha.opn
  obtain ⟨A1, c1, rfl⟩ := hu.opn
  exact ⟨A0, c0, A1, c1, by rw [li_length], by rw [li_length, h6]⟩
theorem final_TellingFormula (n : Int) (va : Value) (xs : List Int) (vu : Value) (vs : List Int) (x k : Int) (vb : Value) (ys : List Int) (vt : Value) (ts : List Int) (y : Int) (w : World) (ha : Sl cI w va xs) (hu : Sl cI w vu vs) (hb : Sl cI w vb ys) (ht : Sl cI w vt ts) :
    Calls Try.prog 6 #[.agg #[.int .i64 n, va, vu], .int .i64 x, .agg #[.int .i64 k, vb, vt], .int .i64 y] w fun e w' => e = .returned (.bool true) ∧ Below w.heap.size w w' := by
  by_cases hc : tcode n xs vs x k ys ts y = 0
  · have h1 : mdOk n xs vs = true ∧ mdOk k ys ts = true ∧ inR x 0 (n - 1) = true ∧ inR y 0 (k - 1) = true := by
      have h := hc
      unfold tcode at h
      split at h
      · rename_i h1
        rw [Bool.and_eq_true] at h1
        split at h
        · rename_i h2
          rw [Bool.and_eq_true] at h2
          exact ⟨h1.1, h1.2, h2.1, h2.2⟩
        · cases h
      · cases h
    obtain ⟨hm, hm2, hx, hy⟩ := h1
    obtain ⟨ns, us, rfl, rfl, rfl, hr, h6, hb8⟩ := mdOk_iff hm
    obtain ⟨ks, ts, rfl, rfl, rfl, hr', h6', hb8'⟩ := mdOk_iff hm2
    have hN : MdN ns us := ⟨hr, h6, hb8⟩
    have hN' : MdN ks ts := ⟨hr', h6', hb8'⟩
    have hx2 := inR_iff.1 hx
    have hy2 := inR_iff.1 hy
    obtain ⟨x, rfl⟩ : ∃ z : Nat, x = z := ⟨x.toNat, by omega⟩
    obtain ⟨y, rfl⟩ : ∃ z : Nat, y = z := ⟨y.toNat, by omega⟩
    refine walk_TellingFormula _ va _ vu _ _ _ vb _ vt _ _ (tres ns us ks ts x y).1 (tres ns us ks ts x y).2 w ha hu hb ht (by have := tres_len ns us ks ts x y; omega) (Lib.hid fun h1 W va vu vb vt ha hu hb ht => ?_) (Lib.hid fun h1 W va vu vb vt ha hu hb ht => ?_)
    · obtain ⟨A0, c0, A1, c1, rfl, rfl⟩ := tell_opn ha hu h6
      obtain ⟨B0, d0, B1, d1, rfl, rfl⟩ := tell_opn hb ht h6'
      exact (spec_TellingFormula_ok ns us ks ts x y A0 A1 B0 B1 c0 c1 d0 d1 W ⟨ha, hu⟩ ⟨hb, ht⟩ hN hN' hc (by omega) (by omega)).mono fun e w' ⟨u, he, ho, hb⟩ => ⟨u, he, ho.ob, hb⟩
    · obtain ⟨A0, c0, A1, c1, rfl, rfl⟩ := tell_opn ha hu h6
      obtain ⟨B0, d0, B1, d1, rfl, rfl⟩ := tell_opn hb ht h6'
      exact (impl_TellingFormula_ok ns us ks ts x y A0 A1 B0 B1 c0 c1 d0 d1 W ⟨ha, hu⟩ ⟨hb, ht⟩ hN hN' hc (by omega) (by omega)).mono fun e w' ⟨u, he, ho, hb⟩ => ⟨u, he, ho.ob, hb⟩
  · exact walk_TellingFormula n va xs vu vs x k vb ys vt ts y [] (tcode n xs vs x k ys ts y) w ha hu hb ht (by simp) (Lib.hid fun h1 W va vu vb vt ha hu hb ht => (spec_TellingFormula_bad n x k y va vu vb vt xs vs ys ts W ha hu hb ht (by omega) (by omega) hc).mono fun e w' ⟨he, hb⟩ => ⟨_, he, (Ow.nil _ _).ob, hb⟩)
      (Lib.hid fun h1 W va vu vb vt ha hu hb ht => (impl_TellingFormula_bad n x k y va vu vb vt xs vs ys ts W ha hu hb ht (by omega) (by omega) hc).mono fun e w' ⟨he, hb⟩ => ⟨_, he, (Ow.nil _ _).ob, hb⟩)
end Go.Proofs.Ytgdmfihnbbgcoaa

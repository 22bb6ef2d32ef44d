/- The walk of the law FnExactIsFiltration, written by program: it returns true and writes nothing that was there. -/
import Derived.Test.YtcjplcliggciaaaGreatDoorLB
import Derived.Test.YtcjplcliggciaaaGreatDoorOA
import Derived.Test.YtcjplcliggciaaaGreatDoorSch
import Derived.Test.YtcjplcliggciaaaGreatDoor14y
namespace Go.Proofs.YtcjplcliggciaaaGreatDoor
open Go.RowKit
set_option linter.unusedVariables false
set_option linter.unusedSimpArgs false
set_option maxHeartbeats 1000000 in
set_option maxRecDepth 100000 in
theorem walk_IsFiltration (aM_x0 : Int) (vM_1 : Value) (aM_x1 : List Int) (vM_2 : Value) (aM_x2 : List Int) (vA_0 : Value) (aA_x0 : List Nd) (aF_x0 : Int) (vF_1 : Value) (aF_x1 : List Int) (r0_x0 : Bool) (r1_x0 : Int) (w : World) (hM_1 : Sl cI w vM_1 aM_x1) (hM_2 : Sl cI w vM_2 aM_x2) (hA_0 : Sl cN w vA_0 aA_x0) (hF_1 : Sl cI w vF_1 aF_x1) 
    (HS : Hid (aM_x1.length + aM_x2.length + aA_x0.length + aF_x1.length ≤ 1048576 → ∀ (W : World) (vM_1 : Value) (vM_2 : Value) (vA_0 : Value) (vF_1 : Value), Sl cI W vM_1 aM_x1 → Sl cI W vM_2 aM_x2 → Sl cN W vA_0 aA_x0 → Sl cI W vF_1 aF_x1 → Calls Tryz.prog 12 #[.agg #[.int .i64 aM_x0, vM_1, vM_2], vA_0, .agg #[.int .i64 aF_x0, vF_1]] W fun e w' => e = .returned (.tuple #[.bool r0_x0, .int .i64 r1_x0]) ∧ Below W.heap.size W w'))
    (HI : Hid (aM_x1.length + aM_x2.length + aA_x0.length + aF_x1.length ≤ 1048576 → ∀ (W : World) (vM_1 : Value) (vM_2 : Value) (vA_0 : Value) (vF_1 : Value), Sl cI W vM_1 aM_x1 → Sl cI W vM_2 aM_x2 → Sl cN W vA_0 aA_x0 → Sl cI W vF_1 aF_x1 → Calls Tryz.prog 16 #[.agg #[.int .i64 aM_x0, vM_1, vM_2], vA_0, .agg #[.int .i64 aF_x0, vF_1]] W fun e w' => e = .returned (.tuple #[.bool r0_x0, .int .i64 r1_x0]) ∧ Below W.heap.size W w')) :
    Calls Tryz.prog 3 #[.agg #[.int .i64 aM_x0, vM_1, vM_2], vA_0, .agg #[.int .i64 aF_x0, vF_1]] w fun e w' => e = .returned (.bool true) ∧ Below w.heap.size w w' := by
  rcases Nat.lt_or_ge 1048576 (aM_x1.length + aM_x2.length) with q0 | q0
  · obtain ⟨vM_1_A, vM_1_c, rfl⟩ := hM_1.opn
    obtain ⟨vM_2_A, vM_2_c, rfl⟩ := hM_2.opn
    obtain ⟨vF_1_A, vF_1_c, rfl⟩ := hF_1.opn
    have A := Below.refl w.heap.size w
    go_enter Tryz.func3, Tryz.ntmps3
    have hb1 := below_alloc' w (.cells #[.int .i64 aM_x0, .slice vM_1_A aM_x1.length vM_1_c, .slice vM_2_A aM_x2.length vM_2_c] 26)
    have y1 := size_alloc' w (.cells #[.int .i64 aM_x0, .slice vM_1_A aM_x1.length vM_1_c, .slice vM_2_A aM_x2.length vM_2_c] 26)
    replace A := A.trans (hb1.mono A.size)
    have z1 := hb1.size
    have b1 := Bk.new w #[.int .i64 aM_x0, .slice vM_1_A aM_x1.length vM_1_c, .slice vM_2_A aM_x2.length vM_2_c] 26
    clear hb1
    have hb2 := below_alloc' (w.alloc (.cells #[.int .i64 aM_x0, .slice vM_1_A aM_x1.length vM_1_c, .slice vM_2_A aM_x2.length vM_2_c] 26)) (.cells #[.int .i64 aF_x0, .slice vF_1_A aF_x1.length vF_1_c] 24)
    have y2 := size_alloc' (w.alloc (.cells #[.int .i64 aM_x0, .slice vM_1_A aM_x1.length vM_1_c, .slice vM_2_A aM_x2.length vM_2_c] 26)) (.cells #[.int .i64 aF_x0, .slice vF_1_A aF_x1.length vF_1_c] 24)
    replace b1 := b1.below hb2
    replace A := A.trans (hb2.mono A.size)
    have z2 := hb2.size
    have b2 := Bk.new (w.alloc (.cells #[.int .i64 aM_x0, .slice vM_1_A aM_x1.length vM_1_c, .slice vM_2_A aM_x2.length vM_2_c] 26)) #[.int .i64 aF_x0, .slice vF_1_A aF_x1.length vF_1_c] 24
    rw [show (w.alloc (.cells #[.int .i64 aM_x0, .slice vM_1_A aM_x1.length vM_1_c, .slice vM_2_A aM_x2.length vM_2_c] 26)).heap.size = w.heap.size + 1 by simp] at b2
    clear hb2
    have b1s := b1.1
    have b1c := b1.2
    have b2s := b2.1
    have b2c := b2.2
    go_wp2_with fail
    clear b1s b1c b2s b2c
    refine (u_sz_Model aM_x0 _ aM_x1 _ aM_x2 _ _ (hM_1.below A) (hM_2.below A) (by omega)).mono ?_
    rintro e w3 ⟨rfl, hb⟩
    replace b1 := b1.below hb
    replace b2 := b2.below hb
    replace A := A.trans (hb.mono A.size)
    have z3 := hb.size
    clear hb
    rw [szL_neg (by omega)]
    have b1s := b1.1
    have b1c := b1.2
    have b2s := b2.1
    have b2c := b2.2
    have BB := Lib.hid A; clear A
    go_wp2
    go_ret
    exact ⟨rfl, BB.out⟩
  rcases Nat.lt_or_ge 1048576 (aM_x1.length + aM_x2.length + aA_x0.length) with q1 | q1
  · obtain ⟨vM_1_A, vM_1_c, rfl⟩ := hM_1.opn
    obtain ⟨vM_2_A, vM_2_c, rfl⟩ := hM_2.opn
    obtain ⟨vF_1_A, vF_1_c, rfl⟩ := hF_1.opn
    have A := Below.refl w.heap.size w
    go_enter Tryz.func3, Tryz.ntmps3
    have hb1 := below_alloc' w (.cells #[.int .i64 aM_x0, .slice vM_1_A aM_x1.length vM_1_c, .slice vM_2_A aM_x2.length vM_2_c] 26)
    have y1 := size_alloc' w (.cells #[.int .i64 aM_x0, .slice vM_1_A aM_x1.length vM_1_c, .slice vM_2_A aM_x2.length vM_2_c] 26)
    replace A := A.trans (hb1.mono A.size)
    have z1 := hb1.size
    have b1 := Bk.new w #[.int .i64 aM_x0, .slice vM_1_A aM_x1.length vM_1_c, .slice vM_2_A aM_x2.length vM_2_c] 26
    clear hb1
    have hb2 := below_alloc' (w.alloc (.cells #[.int .i64 aM_x0, .slice vM_1_A aM_x1.length vM_1_c, .slice vM_2_A aM_x2.length vM_2_c] 26)) (.cells #[.int .i64 aF_x0, .slice vF_1_A aF_x1.length vF_1_c] 24)
    have y2 := size_alloc' (w.alloc (.cells #[.int .i64 aM_x0, .slice vM_1_A aM_x1.length vM_1_c, .slice vM_2_A aM_x2.length vM_2_c] 26)) (.cells #[.int .i64 aF_x0, .slice vF_1_A aF_x1.length vF_1_c] 24)
    replace b1 := b1.below hb2
    replace A := A.trans (hb2.mono A.size)
    have z2 := hb2.size
    have b2 := Bk.new (w.alloc (.cells #[.int .i64 aM_x0, .slice vM_1_A aM_x1.length vM_1_c, .slice vM_2_A aM_x2.length vM_2_c] 26)) #[.int .i64 aF_x0, .slice vF_1_A aF_x1.length vF_1_c] 24
    rw [show (w.alloc (.cells #[.int .i64 aM_x0, .slice vM_1_A aM_x1.length vM_1_c, .slice vM_2_A aM_x2.length vM_2_c] 26)).heap.size = w.heap.size + 1 by simp] at b2
    clear hb2
    have b1s := b1.1
    have b1c := b1.2
    have b2s := b2.1
    have b2c := b2.2
    go_wp2_with fail
    clear b1s b1c b2s b2c
    refine (u_sz_Model aM_x0 _ aM_x1 _ aM_x2 _ _ (hM_1.below A) (hM_2.below A) (by omega)).mono ?_
    rintro e w3 ⟨rfl, hb⟩
    replace b1 := b1.below hb
    replace b2 := b2.below hb
    replace A := A.trans (hb.mono A.size)
    have z3 := hb.size
    clear hb
    rw [szL_pos (by omega)]
    have b1s := b1.1
    have b1c := b1.2
    have b2s := b2.1
    have b2c := b2.2
    go_wp2_with fail
    clear b1s b1c b2s b2c
    refine (u_sz_SN _ aA_x0 _ _ (hA_0.below A) (by omega)).mono ?_
    rintro e w4 ⟨rfl, hb⟩
    replace b1 := b1.below hb
    replace b2 := b2.below hb
    replace A := A.trans (hb.mono A.size)
    have z4 := hb.size
    clear hb
    rw [szL_neg (by omega)]
    have b1s := b1.1
    have b1c := b1.2
    have b2s := b2.1
    have b2c := b2.2
    have BB := Lib.hid A; clear A
    go_wp2
    go_ret
    exact ⟨rfl, BB.out⟩
  rcases Nat.lt_or_ge 1048576 (aM_x1.length + aM_x2.length + aA_x0.length + aF_x1.length) with q2 | q2
  · obtain ⟨vM_1_A, vM_1_c, rfl⟩ := hM_1.opn
    obtain ⟨vM_2_A, vM_2_c, rfl⟩ := hM_2.opn
    obtain ⟨vF_1_A, vF_1_c, rfl⟩ := hF_1.opn
    have A := Below.refl w.heap.size w
    go_enter Tryz.func3, Tryz.ntmps3
    have hb1 := below_alloc' w (.cells #[.int .i64 aM_x0, .slice vM_1_A aM_x1.length vM_1_c, .slice vM_2_A aM_x2.length vM_2_c] 26)
    have y1 := size_alloc' w (.cells #[.int .i64 aM_x0, .slice vM_1_A aM_x1.length vM_1_c, .slice vM_2_A aM_x2.length vM_2_c] 26)
    replace A := A.trans (hb1.mono A.size)
    have z1 := hb1.size
    have b1 := Bk.new w #[.int .i64 aM_x0, .slice vM_1_A aM_x1.length vM_1_c, .slice vM_2_A aM_x2.length vM_2_c] 26
    clear hb1
    have hb2 := below_alloc' (w.alloc (.cells #[.int .i64 aM_x0, .slice vM_1_A aM_x1.length vM_1_c, .slice vM_2_A aM_x2.length vM_2_c] 26)) (.cells #[.int .i64 aF_x0, .slice vF_1_A aF_x1.length vF_1_c] 24)
    have y2 := size_alloc' (w.alloc (.cells #[.int .i64 aM_x0, .slice vM_1_A aM_x1.length vM_1_c, .slice vM_2_A aM_x2.length vM_2_c] 26)) (.cells #[.int .i64 aF_x0, .slice vF_1_A aF_x1.length vF_1_c] 24)
    replace b1 := b1.below hb2
    replace A := A.trans (hb2.mono A.size)
    have z2 := hb2.size
    have b2 := Bk.new (w.alloc (.cells #[.int .i64 aM_x0, .slice vM_1_A aM_x1.length vM_1_c, .slice vM_2_A aM_x2.length vM_2_c] 26)) #[.int .i64 aF_x0, .slice vF_1_A aF_x1.length vF_1_c] 24
    rw [show (w.alloc (.cells #[.int .i64 aM_x0, .slice vM_1_A aM_x1.length vM_1_c, .slice vM_2_A aM_x2.length vM_2_c] 26)).heap.size = w.heap.size + 1 by simp] at b2
    clear hb2
    have b1s := b1.1
    have b1c := b1.2
    have b2s := b2.1
    have b2c := b2.2
    go_wp2_with fail
    clear b1s b1c b2s b2c
    refine (u_sz_Model aM_x0 _ aM_x1 _ aM_x2 _ _ (hM_1.below A) (hM_2.below A) (by omega)).mono ?_
    rintro e w3 ⟨rfl, hb⟩
    replace b1 := b1.below hb
    replace b2 := b2.below hb
    replace A := A.trans (hb.mono A.size)
    have z3 := hb.size
    clear hb
    rw [szL_pos (by omega)]
    have b1s := b1.1
    have b1c := b1.2
    have b2s := b2.1
    have b2c := b2.2
    go_wp2_with fail
    clear b1s b1c b2s b2c
    refine (u_sz_SN _ aA_x0 _ _ (hA_0.below A) (by omega)).mono ?_
    rintro e w4 ⟨rfl, hb⟩
    replace b1 := b1.below hb
    replace b2 := b2.below hb
    replace A := A.trans (hb.mono A.size)
    have z4 := hb.size
    clear hb
    rw [szL_pos (by omega)]
    have b1s := b1.1
    have b1c := b1.2
    have b2s := b2.1
    have b2c := b2.2
    go_wp2_with fail
    clear b1s b1c b2s b2c
    refine (u_sz_Frame aF_x0 _ aF_x1 _ _ (hF_1.below A) (by omega)).mono ?_
    rintro e w5 ⟨rfl, hb⟩
    replace b1 := b1.below hb
    replace b2 := b2.below hb
    replace A := A.trans (hb.mono A.size)
    have z5 := hb.size
    clear hb
    rw [szL_neg (by omega)]
    have b1s := b1.1
    have b1c := b1.2
    have b2s := b2.1
    have b2c := b2.2
    have BB := Lib.hid A; clear A
    go_wp2
    go_ret
    exact ⟨rfl, BB.out⟩
  have HS := Lib.hid (HS.out (by omega))
  have HI := Lib.hid (HI.out (by omega))
  obtain ⟨vM_1_A, vM_1_c, rfl⟩ := hM_1.opn
  obtain ⟨vM_2_A, vM_2_c, rfl⟩ := hM_2.opn
  obtain ⟨vF_1_A, vF_1_c, rfl⟩ := hF_1.opn
  have A := Below.refl w.heap.size w
  go_enter Tryz.func3, Tryz.ntmps3
  have hb1 := below_alloc' w (.cells #[.int .i64 aM_x0, .slice vM_1_A aM_x1.length vM_1_c, .slice vM_2_A aM_x2.length vM_2_c] 26)
  have y1 := size_alloc' w (.cells #[.int .i64 aM_x0, .slice vM_1_A aM_x1.length vM_1_c, .slice vM_2_A aM_x2.length vM_2_c] 26)
  replace A := A.trans (hb1.mono A.size)
  have z1 := hb1.size
  have b1 := Bk.new w #[.int .i64 aM_x0, .slice vM_1_A aM_x1.length vM_1_c, .slice vM_2_A aM_x2.length vM_2_c] 26
  clear hb1
  have hb2 := below_alloc' (w.alloc (.cells #[.int .i64 aM_x0, .slice vM_1_A aM_x1.length vM_1_c, .slice vM_2_A aM_x2.length vM_2_c] 26)) (.cells #[.int .i64 aF_x0, .slice vF_1_A aF_x1.length vF_1_c] 24)
  have y2 := size_alloc' (w.alloc (.cells #[.int .i64 aM_x0, .slice vM_1_A aM_x1.length vM_1_c, .slice vM_2_A aM_x2.length vM_2_c] 26)) (.cells #[.int .i64 aF_x0, .slice vF_1_A aF_x1.length vF_1_c] 24)
  replace b1 := b1.below hb2
  replace A := A.trans (hb2.mono A.size)
  have z2 := hb2.size
  have b2 := Bk.new (w.alloc (.cells #[.int .i64 aM_x0, .slice vM_1_A aM_x1.length vM_1_c, .slice vM_2_A aM_x2.length vM_2_c] 26)) #[.int .i64 aF_x0, .slice vF_1_A aF_x1.length vF_1_c] 24
  rw [show (w.alloc (.cells #[.int .i64 aM_x0, .slice vM_1_A aM_x1.length vM_1_c, .slice vM_2_A aM_x2.length vM_2_c] 26)).heap.size = w.heap.size + 1 by simp] at b2
  clear hb2
  have b1s := b1.1
  have b1c := b1.2
  have b2s := b2.1
  have b2c := b2.2
  go_wp2_with fail
  clear b1s b1c b2s b2c
  refine (u_sz_Model aM_x0 _ aM_x1 _ aM_x2 _ _ (hM_1.below A) (hM_2.below A) (by omega)).mono ?_
  rintro e w3 ⟨rfl, hb⟩
  replace b1 := b1.below hb
  replace b2 := b2.below hb
  replace A := A.trans (hb.mono A.size)
  have z3 := hb.size
  clear hb
  rw [szL_pos (by omega)]
  have b1s := b1.1
  have b1c := b1.2
  have b2s := b2.1
  have b2c := b2.2
  go_wp2_with fail
  clear b1s b1c b2s b2c
  refine (u_sz_SN _ aA_x0 _ _ (hA_0.below A) (by omega)).mono ?_
  rintro e w4 ⟨rfl, hb⟩
  replace b1 := b1.below hb
  replace b2 := b2.below hb
  replace A := A.trans (hb.mono A.size)
  have z4 := hb.size
  clear hb
  rw [szL_pos (by omega)]
  have b1s := b1.1
  have b1c := b1.2
  have b2s := b2.1
  have b2c := b2.2
  go_wp2_with fail
  clear b1s b1c b2s b2c
  refine (u_sz_Frame aF_x0 _ aF_x1 _ _ (hF_1.below A) (by omega)).mono ?_
  rintro e w5 ⟨rfl, hb⟩
  replace b1 := b1.below hb
  replace b2 := b2.below hb
  replace A := A.trans (hb.mono A.size)
  have z5 := hb.size
  clear hb
  rw [szL_pos (by omega)]
  have b1s := b1.1
  have b1c := b1.2
  have b2s := b2.1
  have b2c := b2.2
  go_wp2_with fail
  clear b1s b1c b2s b2c
  have cM_0 : w5.cell? ⟨w.heap.size, 0, none⟩ = some (.int .i64 aM_x0) := b1.2 0
  have cM_1 : w5.cell? ⟨w.heap.size, 1, none⟩ = some (.slice vM_1_A aM_x1.length vM_1_c) := b1.2 1
  have cM_2 : w5.cell? ⟨w.heap.size, 2, none⟩ = some (.slice vM_2_A aM_x2.length vM_2_c) := b1.2 2
  have lM := b1.1
  have cF_0 : w5.cell? ⟨w.heap.size + 1, 0, none⟩ = some (.int .i64 aF_x0) := b2.2 0
  have cF_1 : w5.cell? ⟨w.heap.size + 1, 1, none⟩ = some (.slice vF_1_A aF_x1.length vF_1_c) := b2.2 1
  have lF := b2.1
  have hI := (Below.refl w5.heap.size w5).drew
  refine wp_region_sched (Below w5.heap.size w5) 12 [0, 2, 4, 7, 8, 9, 10, 11] [0, 2, 4, 1, 3, 5, 6, 7, 8, 9, 10, 11] (by kernel_rfl) (by kernel_rfl) hI ?_
  repeat
    apply wpSched_q rfl rfl
    case h =>
      intro w' hI K hK
      have cM_0' := (hI.cell (p := ⟨w.heap.size, 0, none⟩) lM).trans cM_0
      have cM_1' := (hI.cell (p := ⟨w.heap.size, 1, none⟩) lM).trans cM_1
      have cM_2' := (hI.cell (p := ⟨w.heap.size, 2, none⟩) lM).trans cM_2
      have cF_0' := (hI.cell (p := ⟨w.heap.size + 1, 0, none⟩) lF).trans cF_0
      have cF_1' := (hI.cell (p := ⟨w.heap.size + 1, 1, none⟩) lF).trans cF_1
      simp only [quietV, stillV]
      go_simp
      exact hK
    go_simp
  clear cM_0 cM_1 cM_2 cF_0 cF_1 lM lF
  replace b1 := b1.below hI
  replace b2 := b2.below hI
  replace A := A.trans (hI.mono A.size)
  have z6 := hI.size
  refine wpSched_r rfl rfl ?_ hI
  intro K hK _
  go_simp
  refine (u_to_Model aM_x0 _ aM_x1 _ aM_x2 _ (hM_1.below A) (hM_2.below A) (by omega)).mono ?_
  rintro e w7 ⟨tM_v1, tM_v2, H7_, rfl, hH7_a, hH7_b, o7_1, o7_2, hb⟩
  obtain ⟨tM_v1_A, tM_v1_c, rfl⟩ := o7_1.opn
  obtain ⟨tM_v2_A, tM_v2_c, rfl⟩ := o7_2.opn
  replace hI := hI.trans (hb.mono hI.size)
  refine hK _ _ hI ?_
  clear hK K
  replace b1 := b1.below hb
  replace b2 := b2.below hb
  replace A := A.trans (hb.mono A.size)
  have z7 := hb.size
  clear hb
  refine wpSched_r rfl rfl ?_ hI
  intro K hK _
  go_simp
  refine (u_to_SN _ aA_x0 _ (hA_0.below A) (by omega)).mono ?_
  rintro e w8 ⟨tA_v0, rfl, o8_0, hb⟩
  replace hI := hI.trans (hb.mono hI.size)
  refine hK _ _ hI ?_
  clear hK K
  replace o7_1 := o7_1.below hb
  replace o7_2 := o7_2.below hb
  replace b1 := b1.below hb
  replace b2 := b2.below hb
  replace A := A.trans (hb.mono A.size)
  have z8 := hb.size
  clear hb
  refine wpSched_r rfl rfl ?_ hI
  intro K hK _
  go_simp
  refine (u_to_Frame aF_x0 _ aF_x1 _ (hF_1.below A) (by omega)).mono ?_
  rintro e w9 ⟨tF_v1, rfl, o9_1, hb⟩
  obtain ⟨tF_v1_A, tF_v1_c, rfl⟩ := o9_1.opn
  replace hI := hI.trans (hb.mono hI.size)
  refine hK _ _ hI ?_
  clear hK K
  replace o7_1 := o7_1.below hb
  replace o7_2 := o7_2.below hb
  replace o8_0 := o8_0.below hb
  replace b1 := b1.below hb
  replace b2 := b2.below hb
  replace A := A.trans (hb.mono A.size)
  have z9 := hb.size
  clear hb
  refine wpSched_r rfl rfl ?_ hI
  intro K hK _
  go_simp
  refine (HS.out _ _ _ _ _ o7_1.sl o7_2.sl o8_0.sl o9_1.sl).mono ?_
  rintro e w10 ⟨rfl, hb⟩
  replace hI := hI.trans (hb.mono hI.size)
  refine hK _ _ hI ?_
  clear hK K
  replace o7_1 := o7_1.below hb
  replace o7_2 := o7_2.below hb
  replace o8_0 := o8_0.below hb
  replace o9_1 := o9_1.below hb
  replace b1 := b1.below hb
  replace b2 := b2.below hb
  replace A := A.trans (hb.mono A.size)
  have z10 := hb.size
  clear hb
  repeat
    apply wpSched_q rfl rfl
    case h =>
      intro w' hI K hK
      simp only [quietV, stillV]
      go_simp
      exact hK
    go_simp
  refine wpSched_nil ?_
  try simp only [List.drop_succ_cons, List.drop_zero, List.drop_nil]
  clear hI
  clear o7_1
  clear o7_2
  clear o8_0
  clear o9_1
  have b1s := b1.1
  have b1c := b1.2
  have b2s := b2.1
  have b2c := b2.2
  go_wp2_with fail
  clear b1s b1c b2s b2c
  refine (u_to_Model aM_x0 _ aM_x1 _ aM_x2 _ (hM_1.below A) (hM_2.below A) (by omega)).mono ?_
  rintro e w11 ⟨xM_v1, xM_v2, H11_, rfl, hH11_a, hH11_b, o11_1, o11_2, hb⟩
  replace b1 := b1.below hb
  replace b2 := b2.below hb
  replace A := A.trans (hb.mono A.size)
  have z11 := hb.size
  clear hb
  obtain ⟨xM_v1_A, xM_v1_c, rfl⟩ := o11_1.opn
  obtain ⟨xM_v2_A, xM_v2_c, rfl⟩ := o11_2.opn
  have hb12 := below_alloc' w11 (.cells #[.int .i64 aM_x0, .slice xM_v1_A aM_x1.length xM_v1_c, .slice xM_v2_A aM_x2.length xM_v2_c] 35)
  have y12 := size_alloc' w11 (.cells #[.int .i64 aM_x0, .slice xM_v1_A aM_x1.length xM_v1_c, .slice xM_v2_A aM_x2.length xM_v2_c] 35)
  replace o11_1 := o11_1.below hb12
  replace o11_2 := o11_2.below hb12
  replace b1 := b1.below hb12
  replace b2 := b2.below hb12
  replace A := A.trans (hb12.mono A.size)
  have z12 := hb12.size
  have b12 := Bk.new w11 #[.int .i64 aM_x0, .slice xM_v1_A aM_x1.length xM_v1_c, .slice xM_v2_A aM_x2.length xM_v2_c] 35
  clear hb12
  have b1s := b1.1
  have b1c := b1.2
  have b2s := b2.1
  have b2c := b2.2
  have b12s := b12.1
  have b12c := b12.2
  go_wp2_with fail
  clear b1s b1c b2s b2c b12s b12c
  refine (u_to_SN _ aA_x0 _ (hA_0.below A) (by omega)).mono ?_
  rintro e w13 ⟨xA_v0, rfl, o13_0, hb⟩
  replace o11_1 := o11_1.below hb
  replace o11_2 := o11_2.below hb
  replace b1 := b1.below hb
  replace b2 := b2.below hb
  replace b12 := b12.below hb
  replace A := A.trans (hb.mono A.size)
  have z13 := hb.size
  clear hb
  have b1s := b1.1
  have b1c := b1.2
  have b2s := b2.1
  have b2c := b2.2
  have b12s := b12.1
  have b12c := b12.2
  go_wp2_with fail
  clear b1s b1c b2s b2c b12s b12c
  refine (u_to_Frame aF_x0 _ aF_x1 _ (hF_1.below A) (by omega)).mono ?_
  rintro e w14 ⟨xF_v1, rfl, o14_1, hb⟩
  replace o11_1 := o11_1.below hb
  replace o11_2 := o11_2.below hb
  replace o13_0 := o13_0.below hb
  replace b1 := b1.below hb
  replace b2 := b2.below hb
  replace b12 := b12.below hb
  replace A := A.trans (hb.mono A.size)
  have z14 := hb.size
  clear hb
  obtain ⟨xF_v1_A, xF_v1_c, rfl⟩ := o14_1.opn
  have hb15 := below_alloc' w14 (.cells #[.int .i64 aF_x0, .slice xF_v1_A aF_x1.length xF_v1_c] 33)
  have y15 := size_alloc' w14 (.cells #[.int .i64 aF_x0, .slice xF_v1_A aF_x1.length xF_v1_c] 33)
  replace o11_1 := o11_1.below hb15
  replace o11_2 := o11_2.below hb15
  replace o13_0 := o13_0.below hb15
  replace o14_1 := o14_1.below hb15
  replace b1 := b1.below hb15
  replace b2 := b2.below hb15
  replace b12 := b12.below hb15
  replace A := A.trans (hb15.mono A.size)
  have z15 := hb15.size
  have b15 := Bk.new w14 #[.int .i64 aF_x0, .slice xF_v1_A aF_x1.length xF_v1_c] 33
  clear hb15
  have b1s := b1.1
  have b1c := b1.2
  have b2s := b2.1
  have b2c := b2.2
  have b12s := b12.1
  have b12c := b12.2
  have b15s := b15.1
  have b15c := b15.2
  go_wp2_with fail
  clear b1s b1c b2s b2c b12s b12c b15s b15c
  refine (HI.out _ _ _ _ _ o11_1.sl o11_2.sl o13_0.sl o14_1.sl).mono ?_
  rintro e w16 ⟨rfl, hb⟩
  replace o11_1 := o11_1.below hb
  replace o11_2 := o11_2.below hb
  replace o13_0 := o13_0.below hb
  replace o14_1 := o14_1.below hb
  replace b1 := b1.below hb
  replace b2 := b2.below hb
  replace b12 := b12.below hb
  replace b15 := b15.below hb
  replace A := A.trans (hb.mono A.size)
  have z16 := hb.size
  clear hb
  have b1s := b1.1
  have b1c := b1.2
  have b2s := b2.1
  have b2c := b2.2
  have b12s := b12.1
  have b12c := b12.2
  have b15s := b15.1
  have b15c := b15.2
  go_wp2_with fail
  clear b1s b1c b2s b2c b12s b12c b15s b15c
  have hq18_1 := hM_1.below A
  have hq18_2 := hM_2.below A
  have c0 : w16.cell? ⟨w11.heap.size, 0, none⟩ = some (.int .i64 aM_x0) := b12.2 0
  have c1 : w16.cell? ⟨w11.heap.size, 1, none⟩ = some (.slice xM_v1_A aM_x1.length xM_v1_c) := b12.2 1
  have c2 : w16.cell? ⟨w11.heap.size, 2, none⟩ = some (.slice xM_v2_A aM_x2.length xM_v2_c) := b12.2 2
  have d0 : w16.cell? ⟨w.heap.size, 0, none⟩ = some (.int .i64 aM_x0) := b1.2 0
  have d1 : w16.cell? ⟨w.heap.size, 1, none⟩ = some (.slice vM_1_A aM_x1.length vM_1_c) := b1.2 1
  have d2 : w16.cell? ⟨w.heap.size, 2, none⟩ = some (.slice vM_2_A aM_x2.length vM_2_c) := b1.2 2
  go_region_held3 (fun w' => w'.cell? ⟨w11.heap.size, 0, none⟩ = some (.int .i64 aM_x0) ∧ w'.cell? ⟨w11.heap.size, 1, none⟩ = some (.slice xM_v1_A aM_x1.length xM_v1_c) ∧ w'.cell? ⟨w11.heap.size, 2, none⟩ = some (.slice xM_v2_A aM_x2.length xM_v2_c) ∧ w'.cell? ⟨w.heap.size, 0, none⟩ = some (.int .i64 aM_x0) ∧ w'.cell? ⟨w.heap.size, 1, none⟩ = some (.slice vM_1_A aM_x1.length vM_1_c) ∧ w'.cell? ⟨w.heap.size, 2, none⟩ = some (.slice vM_2_A aM_x2.length vM_2_c)) (first | exact ⟨c0'', c1'', c2'', d0'', d1'', d2''⟩ | exact ⟨c0', c1', c2', d0', d1', d2'⟩ | exact ⟨c0, c1, c2, d0, d1, d2⟩ | (simp [*]; done)) (first | (go_at_call 13; refine (u_to_Model aM_x0 _ aM_x1 _ aM_x2 _ (hq18_1.below (below_drewN (Below.refl _ _) 1)) (hq18_2.below (below_drewN (Below.refl _ _) 1)) (by omega)).mono ?_; rintro e w17 ⟨y18_1, y18_2, Hy18_, rfl, hHy18_a, hHy18_b, oy18_1, oy18_2, hbP⟩; obtain ⟨y18_1_A, y18_1_c, rfl⟩ := oy18_1.opn; obtain ⟨y18_2_A, y18_2_c, rfl⟩ := oy18_2.opn; have hbP1 : Below w16.heap.size w16 w17 := (below_drewN (Below.refl _ _) 1).trans hbP; have c0' := (hbP1.cell (p := ⟨w11.heap.size, 0, none⟩) b12.1).trans c0; have c1' := (hbP1.cell (p := ⟨w11.heap.size, 1, none⟩) b12.1).trans c1; have c2' := (hbP1.cell (p := ⟨w11.heap.size, 2, none⟩) b12.1).trans c2; have d0' := (hbP1.cell (p := ⟨w.heap.size, 0, none⟩) b1.1).trans d0; have d1' := (hbP1.cell (p := ⟨w.heap.size, 1, none⟩) b1.1).trans d1; have d2' := (hbP1.cell (p := ⟨w.heap.size, 2, none⟩) b1.1).trans d2) | (go_at_call 17; refine (u_eq_Model aM_x0 _ _ aM_x1 _ _ aM_x2 _ (o11_1.below hbP1).sl (o11_2.below hbP1).sl oy18_1.sl oy18_2.sl (by omega)).mono ?_; rintro e w18 ⟨rfl, hbQ⟩; have c0'' := (hbQ.cell (p := ⟨w11.heap.size, 0, none⟩) (b12.below hbP1).1).trans c0'; have c1'' := (hbQ.cell (p := ⟨w11.heap.size, 1, none⟩) (b12.below hbP1).1).trans c1'; have c2'' := (hbQ.cell (p := ⟨w11.heap.size, 2, none⟩) (b12.below hbP1).1).trans c2'; have d0'' := (hbQ.cell (p := ⟨w.heap.size, 0, none⟩) (b1.below hbP1).1).trans d0'; have d1'' := (hbQ.cell (p := ⟨w.heap.size, 1, none⟩) (b1.below hbP1).1).trans d1'; have d2'' := (hbQ.cell (p := ⟨w.heap.size, 2, none⟩) (b1.below hbP1).1).trans d2'))
  have hb := bthen hbP1 hbQ
  clear c0'' c0' c0 c1'' c1' c1 c2'' c2' c2 d0'' d0' d0 d1'' d1' d1 d2'' d2' d2
  clear hbP hbQ hbP1 oy18_1 oy18_2
  clear hq18_1
  clear hq18_2
  replace o11_1 := o11_1.below hb
  replace o11_2 := o11_2.below hb
  replace o13_0 := o13_0.below hb
  replace o14_1 := o14_1.below hb
  replace b1 := b1.below hb
  replace b2 := b2.below hb
  replace b12 := b12.below hb
  replace b15 := b15.below hb
  replace A := A.trans (hb.mono A.size)
  have z18 := hb.size
  clear hb
  have b1s := b1.1
  have b1c := b1.2
  have b2s := b2.1
  have b2c := b2.2
  have b12s := b12.1
  have b12c := b12.2
  have b15s := b15.1
  have b15c := b15.2
  go_wp2_with fail
  clear b1s b1c b2s b2c b12s b12c b15s b15c
  refine (u_to_SN _ aA_x0 _ (hA_0.below A) (by omega)).mono ?_
  rintro e w19 ⟨yA_v0, rfl, o19_0, hb⟩
  replace o11_1 := o11_1.below hb
  replace o11_2 := o11_2.below hb
  replace o13_0 := o13_0.below hb
  replace o14_1 := o14_1.below hb
  replace b1 := b1.below hb
  replace b2 := b2.below hb
  replace b12 := b12.below hb
  replace b15 := b15.below hb
  replace A := A.trans (hb.mono A.size)
  have z19 := hb.size
  clear hb
  have b1s := b1.1
  have b1c := b1.2
  have b2s := b2.1
  have b2c := b2.2
  have b12s := b12.1
  have b12c := b12.2
  have b15s := b15.1
  have b15c := b15.2
  go_wp2_with fail
  clear b1s b1c b2s b2c b12s b12c b15s b15c
  refine (u_eq_SN _ _ aA_x0 _ o13_0.sl o19_0.sl (by omega)).mono ?_
  rintro e w20 ⟨rfl, hb⟩
  replace o11_1 := o11_1.below hb
  replace o11_2 := o11_2.below hb
  replace o13_0 := o13_0.below hb
  replace o14_1 := o14_1.below hb
  replace o19_0 := o19_0.below hb
  replace b1 := b1.below hb
  replace b2 := b2.below hb
  replace b12 := b12.below hb
  replace b15 := b15.below hb
  replace A := A.trans (hb.mono A.size)
  have z20 := hb.size
  clear hb
  clear o19_0
  have b1s := b1.1
  have b1c := b1.2
  have b2s := b2.1
  have b2c := b2.2
  have b12s := b12.1
  have b12c := b12.2
  have b15s := b15.1
  have b15c := b15.2
  go_wp2_with fail
  clear b1s b1c b2s b2c b12s b12c b15s b15c
  have hq22_1 := hF_1.below A
  have c0 : w20.cell? ⟨w14.heap.size, 0, none⟩ = some (.int .i64 aF_x0) := b15.2 0
  have c1 : w20.cell? ⟨w14.heap.size, 1, none⟩ = some (.slice xF_v1_A aF_x1.length xF_v1_c) := b15.2 1
  have d0 : w20.cell? ⟨w.heap.size + 1, 0, none⟩ = some (.int .i64 aF_x0) := b2.2 0
  have d1 : w20.cell? ⟨w.heap.size + 1, 1, none⟩ = some (.slice vF_1_A aF_x1.length vF_1_c) := b2.2 1
  go_region_held3 (fun w' => w'.cell? ⟨w14.heap.size, 0, none⟩ = some (.int .i64 aF_x0) ∧ w'.cell? ⟨w14.heap.size, 1, none⟩ = some (.slice xF_v1_A aF_x1.length xF_v1_c) ∧ w'.cell? ⟨w.heap.size + 1, 0, none⟩ = some (.int .i64 aF_x0) ∧ w'.cell? ⟨w.heap.size + 1, 1, none⟩ = some (.slice vF_1_A aF_x1.length vF_1_c)) (first | exact ⟨c0'', c1'', d0'', d1''⟩ | exact ⟨c0', c1', d0', d1'⟩ | exact ⟨c0, c1, d0, d1⟩ | (simp [*]; done)) (first | (go_at_call 15; refine (u_to_Frame aF_x0 _ aF_x1 _ (hq22_1.below (below_drewN (Below.refl _ _) 1)) (by omega)).mono ?_; rintro e w21 ⟨y22_1, rfl, oy22_1, hbP⟩; obtain ⟨y22_1_A, y22_1_c, rfl⟩ := oy22_1.opn; have hbP1 : Below w20.heap.size w20 w21 := (below_drewN (Below.refl _ _) 1).trans hbP; have c0' := (hbP1.cell (p := ⟨w14.heap.size, 0, none⟩) b15.1).trans c0; have c1' := (hbP1.cell (p := ⟨w14.heap.size, 1, none⟩) b15.1).trans c1; have d0' := (hbP1.cell (p := ⟨w.heap.size + 1, 0, none⟩) b2.1).trans d0; have d1' := (hbP1.cell (p := ⟨w.heap.size + 1, 1, none⟩) b2.1).trans d1) | (go_at_call 19; refine (u_eq_Frame aF_x0 _ _ aF_x1 _ (o14_1.below hbP1).sl oy22_1.sl (by omega)).mono ?_; rintro e w22 ⟨rfl, hbQ⟩; have c0'' := (hbQ.cell (p := ⟨w14.heap.size, 0, none⟩) (b15.below hbP1).1).trans c0'; have c1'' := (hbQ.cell (p := ⟨w14.heap.size, 1, none⟩) (b15.below hbP1).1).trans c1'; have d0'' := (hbQ.cell (p := ⟨w.heap.size + 1, 0, none⟩) (b2.below hbP1).1).trans d0'; have d1'' := (hbQ.cell (p := ⟨w.heap.size + 1, 1, none⟩) (b2.below hbP1).1).trans d1'))
  have hb := bthen hbP1 hbQ
  clear c0'' c0' c0 c1'' c1' c1 d0'' d0' d0 d1'' d1' d1
  clear hbP hbQ hbP1 oy22_1
  clear hq22_1
  replace o11_1 := o11_1.below hb
  replace o11_2 := o11_2.below hb
  replace o13_0 := o13_0.below hb
  replace o14_1 := o14_1.below hb
  replace b1 := b1.below hb
  replace b2 := b2.below hb
  replace b12 := b12.below hb
  replace b15 := b15.below hb
  replace A := A.trans (hb.mono A.size)
  have z22 := hb.size
  clear hb
  have b1s := b1.1
  have b1c := b1.2
  have b2s := b2.1
  have b2c := b2.2
  have b12s := b12.1
  have b12c := b12.2
  have b15s := b15.1
  have b15c := b15.2
  have BB := Lib.hid A; clear A
  clear o11_1 o11_2 o13_0 o14_1
  go_wp2
  go_ret
  exact ⟨rfl, BB.out⟩
theorem mod_opn {va vu : Value} {ns us : List Nat} {w : World} (ha : Sl cI w va (li ns)) (hu : Sl cI w vu (li us)) (h6 : us.length = 6) : ∃ A0 c0 A1 c1, va = .slice A0 ns.length c0 ∧ vu = .slice A1 6 c1 := by
  obtain ⟨A0, c0, rfl⟩ := ha.opn
  obtain ⟨A1, c1, rfl⟩ := hu.opn
  exact ⟨A0, c0, A1, c1, by rw [li_length], by rw [li_length, h6]⟩
theorem frm_opn {vg : Value} {gs : List Nat} {w : World} (hg : Sl cI w vg (li gs)) : ∃ A c, vg = .slice A gs.length c := by
  obtain ⟨A, c, rfl⟩ := hg.opn
  exact ⟨A, c, by rw [li_length]⟩
theorem final_IsFiltration (n : Int) (va : Value) (xs : List Int) (vu : Value) (vs : List Int) (vf : Value) (zs : List Nd) (k : Int) (vg : Value) (gs : List Int) (w : World) (ha : Sl cI w va xs) (hu : Sl cI w vu vs) (hf : Sl cN w vf zs) (hg : Sl cI w vg gs) :
    Calls Tryz.prog 3 #[.agg #[.int .i64 n, va, vu], vf, .agg #[.int .i64 k, vg]] w fun e w' => e = .returned (.bool true) ∧ Below w.heap.size w w' := by
  rcases fcode_cases n xs vs zs with hc | ⟨hc1, hc⟩
  · obtain ⟨⟨ns, us, rfl, rfl, rfl, h1⟩, ⟨f, hok, rfl, hl⟩, hmk, hfk⟩ := fcode_zero hc
    cases hfr : frOk k gs
    · refine walk_IsFiltration _ va _ vu _ vf _ k vg gs false 1 w ha hu hf hg (Lib.hid fun hh W va vu vf vg ha hu hf hg => ?_) (Lib.hid fun hh W va vu vf vg ha hu hf hg => ?_)
      · obtain ⟨A0, c0, A1, c1, rfl, rfl⟩ := mod_opn ha hu h1.l
        exact spec_IsFiltration_bad2 ns us f A0 A1 c0 c1 vf vg k gs W ⟨ha, hu⟩ h1 hf hok hl hmk hfk hg (by omega) hfr
      · exact impl_IsFiltration_bad _ k va vu vf vg _ _ gs _ W ha hu hf hg (by omega) (by omega) (by omega) (by omega) (.inr ⟨hc, hfr⟩)
    · obtain ⟨gn, rfl, rfl, hgr⟩ := frOk_iff hfr
      refine walk_IsFiltration _ va _ vu _ vf _ _ vg _ (isf ns us f gn) 0 w ha hu hf hg (Lib.hid fun hh W va vu vf vg ha hu hf hg => ?_) (Lib.hid fun hh W va vu vf vg ha hu hf hg => ?_)
      · obtain ⟨A0, c0, A1, c1, rfl, rfl⟩ := mod_opn ha hu h1.l
        obtain ⟨A4, c4, rfl⟩ := frm_opn hg
        exact spec_IsFiltration_ok ns us gn f A0 A1 A4 c0 c1 c4 vf W ⟨ha, hu⟩ h1 hf hok hl hmk hfk hg hgr hfr
      · obtain ⟨A0, c0, A1, c1, rfl, rfl⟩ := mod_opn ha hu h1.l
        obtain ⟨A4, c4, rfl⟩ := frm_opn hg
        exact impl_IsFiltration_ok ns us gn f A0 A1 A4 c0 c1 c4 vf W ⟨ha, hu⟩ h1 hf hok hl hmk hfk hg hgr hfr
  · exact walk_IsFiltration n va xs vu vs vf zs k vg gs false 1 w ha hu hf hg
      (Lib.hid fun hh W va vu vf vg ha hu hf hg => spec_IsFiltration_bad1 n k va vu vf vg xs vs gs zs W ha hu hf hg (by omega) (by omega) (by omega) (by omega) hc)
      (Lib.hid fun hh W va vu vf vg ha hu hf hg => impl_IsFiltration_bad n k va vu vf vg xs vs gs zs W ha hu hf hg (by omega) (by omega) (by omega) (by omega) (.inl hc1))
end Go.Proofs.YtcjplcliggciaaaGreatDoor

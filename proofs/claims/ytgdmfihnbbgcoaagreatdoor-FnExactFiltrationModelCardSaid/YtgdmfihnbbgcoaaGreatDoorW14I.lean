/- The walk of the law FnExactFiltrationModel, written by program: it returns true and writes nothing that was there. -/
import Derived.Test.YtgdmfihnbbgcoaaGreatDoorLB
import Derived.Test.YtgdmfihnbbgcoaaGreatDoorOA
import Derived.Test.YtgdmfihnbbgcoaaGreatDoorLM2
import Derived.Test.YtgdmfihnbbgcoaaGreatDoorRb
import Derived.Test.YtgdmfihnbbgcoaaGreatDoor14F
import Derived.Test.YtgdmfihnbbgcoaaGreatDoor14G
import Derived.Test.YtgdmfihnbbgcoaaGreatDoor14H
import Derived.Test.YtgdmfihnbbgcoaaGreatDoor14I
namespace Go.Proofs.YtgdmfihnbbgcoaaGreatDoor
open Go.RowKit
set_option linter.unusedVariables false
set_option linter.unusedSimpArgs false
set_option maxHeartbeats 1000000 in
set_option maxRecDepth 100000 in
theorem walk_FiltrationModel (aM_x0 : Int) (vM_1 : Value) (aM_x1 : List Int) (vM_2 : Value) (aM_x2 : List Int) (vA_0 : Value) (aA_x0 : List Nd) (aF_x0 : Int) (vF_1 : Value) (aF_x1 : List Int) (r0_x0 : Int) (r0_x1 : List Int) (r0_x2 : List Int) (r1_x0 : Int) (w : World) (hM_1 : Sl cI w vM_1 aM_x1) (hM_2 : Sl cI w vM_2 aM_x2) (hA_0 : Sl cN w vA_0 aA_x0) (hF_1 : Sl cI w vF_1 aF_x1) (hr0_1 : r0_x1.length ≤ 1048576) (hr0_2 : r0_x2.length ≤ 1048576)
    (HS : Hid (aM_x1.length + aM_x2.length + aA_x0.length + aF_x1.length ≤ 1048576 → ∀ (W : World) (vM_1 : Value) (vM_2 : Value) (vA_0 : Value) (vF_1 : Value), Sl cI W vM_1 aM_x1 → Sl cI W vM_2 aM_x2 → Sl cN W vA_0 aA_x0 → Sl cI W vF_1 aF_x1 → Calls Tryz.prog 9 #[.agg #[.int .i64 aM_x0, vM_1, vM_2], vA_0, .agg #[.int .i64 aF_x0, vF_1]] W fun e w' => ∃ u0_1 u0_2 : Value, e = .returned (.tuple #[.agg #[.int .i64 r0_x0, u0_1, u0_2], .int .i64 r1_x0]) ∧ Ob cI 2 W.heap.size w'.heap.size w' u0_1 r0_x1 ∧ Ob cI 2 W.heap.size w'.heap.size w' u0_2 r0_x2 ∧ Below W.heap.size W w'))
    (HI : Hid (aM_x1.length + aM_x2.length + aA_x0.length + aF_x1.length ≤ 1048576 → ∀ (W : World) (vM_1 : Value) (vM_2 : Value) (vA_0 : Value) (vF_1 : Value), Sl cI W vM_1 aM_x1 → Sl cI W vM_2 aM_x2 → Sl cN W vA_0 aA_x0 → Sl cI W vF_1 aF_x1 → Calls Tryz.prog 13 #[.agg #[.int .i64 aM_x0, vM_1, vM_2], vA_0, .agg #[.int .i64 aF_x0, vF_1]] W fun e w' => ∃ u0_1 u0_2 : Value, e = .returned (.tuple #[.agg #[.int .i64 r0_x0, u0_1, u0_2], .int .i64 r1_x0]) ∧ Ob cI 2 W.heap.size w'.heap.size w' u0_1 r0_x1 ∧ Ob cI 2 W.heap.size w'.heap.size w' u0_2 r0_x2 ∧ (∀ k, u0_2.ownBlock = some k → u0_1.ownBlock ≠ some k) ∧ Below W.heap.size W w')) :
    Calls Tryz.prog 3 #[.agg #[.int .i64 aM_x0, vM_1, vM_2], vA_0, .agg #[.int .i64 aF_x0, vF_1]] w fun e w' => e = .returned (.bool true) ∧ Below w.heap.size w w' := by
  rcases Nat.lt_or_ge 1048576 (aM_x1.length + aM_x2.length) with q0 | q0
  · obtain ⟨vM_1_A, vM_1_c, rfl⟩ := hM_1.opn
    obtain ⟨vM_2_A, vM_2_c, rfl⟩ := hM_2.opn
    obtain ⟨vF_1_A, vF_1_c, rfl⟩ := hF_1.opn
    have A := Below.refl w.heap.size w
    go_enter Tryz.func3, Tryz.ntmps3
    have hb1 := below_alloc' w (.cells #[.int .i64 aM_x0, .slice vM_1_A aM_x1.length vM_1_c, .slice vM_2_A aM_x2.length vM_2_c] 26)
    have y1 := size_alloc' w (.cells #[.int .i64 aM_x0, .slice vM_1_A aM_x1.length vM_1_c, .slice vM_2_A aM_x2.length vM_2_c] 26)
    replace A := A.trans (hb1.mono A.size)
    have z1 := hb1.size
    have b1 := Bk.new w #[.int .i64 aM_x0, .slice vM_1_A aM_x1.length vM_1_c, .slice vM_2_A aM_x2.length vM_2_c] 26
    clear hb1
    have hb2 := below_alloc' (w.alloc (.cells #[.int .i64 aM_x0, .slice vM_1_A aM_x1.length vM_1_c, .slice vM_2_A aM_x2.length vM_2_c] 26)) (.cells #[.int .i64 aF_x0, .slice vF_1_A aF_x1.length vF_1_c] 24)
    have y2 := size_alloc' (w.alloc (.cells #[.int .i64 aM_x0, .slice vM_1_A aM_x1.length vM_1_c, .slice vM_2_A aM_x2.length vM_2_c] 26)) (.cells #[.int .i64 aF_x0, .slice vF_1_A aF_x1.length vF_1_c] 24)
    replace b1 := b1.below hb2
    replace A := A.trans (hb2.mono A.size)
    have z2 := hb2.size
    have b2 := Bk.new (w.alloc (.cells #[.int .i64 aM_x0, .slice vM_1_A aM_x1.length vM_1_c, .slice vM_2_A aM_x2.length vM_2_c] 26)) #[.int .i64 aF_x0, .slice vF_1_A aF_x1.length vF_1_c] 24
    rw [show (w.alloc (.cells #[.int .i64 aM_x0, .slice vM_1_A aM_x1.length vM_1_c, .slice vM_2_A aM_x2.length vM_2_c] 26)).heap.size = w.heap.size + 1 by simp] at b2
    clear hb2
    have b1s := b1.1
    have b1c := b1.2
    have b2s := b2.1
    have b2c := b2.2
    go_wp2_with fail
    clear b1s b1c b2s b2c
    refine (u_sz_Model aM_x0 _ aM_x1 _ aM_x2 _ _ (hM_1.below A) (hM_2.below A) (by omega)).mono ?_
    rintro e w3 ⟨rfl, hb⟩
    replace b1 := b1.below hb
    replace b2 := b2.below hb
    replace A := A.trans (hb.mono A.size)
    have z3 := hb.size
    clear hb
    rw [szL_neg (by omega)]
    have b1s := b1.1
    have b1c := b1.2
    have b2s := b2.1
    have b2c := b2.2
    have BB := Lib.hid A; clear A
    go_wp2
    go_ret
    exact ⟨rfl, BB.out⟩
  rcases Nat.lt_or_ge 1048576 (aM_x1.length + aM_x2.length + aA_x0.length) with q1 | q1
  · obtain ⟨vM_1_A, vM_1_c, rfl⟩ := hM_1.opn
    obtain ⟨vM_2_A, vM_2_c, rfl⟩ := hM_2.opn
    obtain ⟨vF_1_A, vF_1_c, rfl⟩ := hF_1.opn
    have A := Below.refl w.heap.size w
    go_enter Tryz.func3, Tryz.ntmps3
    have hb1 := below_alloc' w (.cells #[.int .i64 aM_x0, .slice vM_1_A aM_x1.length vM_1_c, .slice vM_2_A aM_x2.length vM_2_c] 26)
    have y1 := size_alloc' w (.cells #[.int .i64 aM_x0, .slice vM_1_A aM_x1.length vM_1_c, .slice vM_2_A aM_x2.length vM_2_c] 26)
    replace A := A.trans (hb1.mono A.size)
    have z1 := hb1.size
    have b1 := Bk.new w #[.int .i64 aM_x0, .slice vM_1_A aM_x1.length vM_1_c, .slice vM_2_A aM_x2.length vM_2_c] 26
    clear hb1
    have hb2 := below_alloc' (w.alloc (.cells #[.int .i64 aM_x0, .slice vM_1_A aM_x1.length vM_1_c, .slice vM_2_A aM_x2.length vM_2_c] 26)) (.cells #[.int .i64 aF_x0, .slice vF_1_A aF_x1.length vF_1_c] 24)
    have y2 := size_alloc' (w.alloc (.cells #[.int .i64 aM_x0, .slice vM_1_A aM_x1.length vM_1_c, .slice vM_2_A aM_x2.length vM_2_c] 26)) (.cells #[.int .i64 aF_x0, .slice vF_1_A aF_x1.length vF_1_c] 24)
    replace b1 := b1.below hb2
    replace A := A.trans (hb2.mono A.size)
    have z2 := hb2.size
    have b2 := Bk.new (w.alloc (.cells #[.int .i64 aM_x0, .slice vM_1_A aM_x1.length vM_1_c, .slice vM_2_A aM_x2.length vM_2_c] 26)) #[.int .i64 aF_x0, .slice vF_1_A aF_x1.length vF_1_c] 24
    rw [show (w.alloc (.cells #[.int .i64 aM_x0, .slice vM_1_A aM_x1.length vM_1_c, .slice vM_2_A aM_x2.length vM_2_c] 26)).heap.size = w.heap.size + 1 by simp] at b2
    clear hb2
    have b1s := b1.1
    have b1c := b1.2
    have b2s := b2.1
    have b2c := b2.2
    go_wp2_with fail
    clear b1s b1c b2s b2c
    refine (u_sz_Model aM_x0 _ aM_x1 _ aM_x2 _ _ (hM_1.below A) (hM_2.below A) (by omega)).mono ?_
    rintro e w3 ⟨rfl, hb⟩
    replace b1 := b1.below hb
    replace b2 := b2.below hb
    replace A := A.trans (hb.mono A.size)
    have z3 := hb.size
    clear hb
    rw [szL_pos (by omega)]
    have b1s := b1.1
    have b1c := b1.2
    have b2s := b2.1
    have b2c := b2.2
    go_wp2_with fail
    clear b1s b1c b2s b2c
    refine (u_sz_SN _ aA_x0 _ _ (hA_0.below A) (by omega)).mono ?_
    rintro e w4 ⟨rfl, hb⟩
    replace b1 := b1.below hb
    replace b2 := b2.below hb
    replace A := A.trans (hb.mono A.size)
    have z4 := hb.size
    clear hb
    rw [szL_neg (by omega)]
    have b1s := b1.1
    have b1c := b1.2
    have b2s := b2.1
    have b2c := b2.2
    have BB := Lib.hid A; clear A
    go_wp2
    go_ret
    exact ⟨rfl, BB.out⟩
  rcases Nat.lt_or_ge 1048576 (aM_x1.length + aM_x2.length + aA_x0.length + aF_x1.length) with q2 | q2
  · obtain ⟨vM_1_A, vM_1_c, rfl⟩ := hM_1.opn
    obtain ⟨vM_2_A, vM_2_c, rfl⟩ := hM_2.opn
    obtain ⟨vF_1_A, vF_1_c, rfl⟩ := hF_1.opn
    have A := Below.refl w.heap.size w
    go_enter Tryz.func3, Tryz.ntmps3
    have hb1 := below_alloc' w (.cells #[.int .i64 aM_x0, .slice vM_1_A aM_x1.length vM_1_c, .slice vM_2_A aM_x2.length vM_2_c] 26)
    have y1 := size_alloc' w (.cells #[.int .i64 aM_x0, .slice vM_1_A aM_x1.length vM_1_c, .slice vM_2_A aM_x2.length vM_2_c] 26)
    replace A := A.trans (hb1.mono A.size)
    have z1 := hb1.size
    have b1 := Bk.new w #[.int .i64 aM_x0, .slice vM_1_A aM_x1.length vM_1_c, .slice vM_2_A aM_x2.length vM_2_c] 26
    clear hb1
    have hb2 := below_alloc' (w.alloc (.cells #[.int .i64 aM_x0, .slice vM_1_A aM_x1.length vM_1_c, .slice vM_2_A aM_x2.length vM_2_c] 26)) (.cells #[.int .i64 aF_x0, .slice vF_1_A aF_x1.length vF_1_c] 24)
    have y2 := size_alloc' (w.alloc (.cells #[.int .i64 aM_x0, .slice vM_1_A aM_x1.length vM_1_c, .slice vM_2_A aM_x2.length vM_2_c] 26)) (.cells #[.int .i64 aF_x0, .slice vF_1_A aF_x1.length vF_1_c] 24)
    replace b1 := b1.below hb2
    replace A := A.trans (hb2.mono A.size)
    have z2 := hb2.size
    have b2 := Bk.new (w.alloc (.cells #[.int .i64 aM_x0, .slice vM_1_A aM_x1.length vM_1_c, .slice vM_2_A aM_x2.length vM_2_c] 26)) #[.int .i64 aF_x0, .slice vF_1_A aF_x1.length vF_1_c] 24
    rw [show (w.alloc (.cells #[.int .i64 aM_x0, .slice vM_1_A aM_x1.length vM_1_c, .slice vM_2_A aM_x2.length vM_2_c] 26)).heap.size = w.heap.size + 1 by simp] at b2
    clear hb2
    have b1s := b1.1
    have b1c := b1.2
    have b2s := b2.1
    have b2c := b2.2
    go_wp2_with fail
    clear b1s b1c b2s b2c
    refine (u_sz_Model aM_x0 _ aM_x1 _ aM_x2 _ _ (hM_1.below A) (hM_2.below A) (by omega)).mono ?_
    rintro e w3 ⟨rfl, hb⟩
    replace b1 := b1.below hb
    replace b2 := b2.below hb
    replace A := A.trans (hb.mono A.size)
    have z3 := hb.size
    clear hb
    rw [szL_pos (by omega)]
    have b1s := b1.1
    have b1c := b1.2
    have b2s := b2.1
    have b2c := b2.2
    go_wp2_with fail
    clear b1s b1c b2s b2c
    refine (u_sz_SN _ aA_x0 _ _ (hA_0.below A) (by omega)).mono ?_
    rintro e w4 ⟨rfl, hb⟩
    replace b1 := b1.below hb
    replace b2 := b2.below hb
    replace A := A.trans (hb.mono A.size)
    have z4 := hb.size
    clear hb
    rw [szL_pos (by omega)]
    have b1s := b1.1
    have b1c := b1.2
    have b2s := b2.1
    have b2c := b2.2
    go_wp2_with fail
    clear b1s b1c b2s b2c
    refine (u_sz_Frame aF_x0 _ aF_x1 _ _ (hF_1.below A) (by omega)).mono ?_
    rintro e w5 ⟨rfl, hb⟩
    replace b1 := b1.below hb
    replace b2 := b2.below hb
    replace A := A.trans (hb.mono A.size)
    have z5 := hb.size
    clear hb
    rw [szL_neg (by omega)]
    have b1s := b1.1
    have b1c := b1.2
    have b2s := b2.1
    have b2c := b2.2
    have BB := Lib.hid A; clear A
    go_wp2
    go_ret
    exact ⟨rfl, BB.out⟩
  have HS := Lib.hid (HS.out (by omega))
  have HI := Lib.hid (HI.out (by omega))
  obtain ⟨vM_1_A, vM_1_c, rfl⟩ := hM_1.opn
  obtain ⟨vM_2_A, vM_2_c, rfl⟩ := hM_2.opn
  obtain ⟨vF_1_A, vF_1_c, rfl⟩ := hF_1.opn
  have A := Below.refl w.heap.size w
  go_enter Tryz.func3, Tryz.ntmps3
  have hb1 := below_alloc' w (.cells #[.int .i64 aM_x0, .slice vM_1_A aM_x1.length vM_1_c, .slice vM_2_A aM_x2.length vM_2_c] 26)
  have y1 := size_alloc' w (.cells #[.int .i64 aM_x0, .slice vM_1_A aM_x1.length vM_1_c, .slice vM_2_A aM_x2.length vM_2_c] 26)
  replace A := A.trans (hb1.mono A.size)
  have z1 := hb1.size
  have b1 := Bk.new w #[.int .i64 aM_x0, .slice vM_1_A aM_x1.length vM_1_c, .slice vM_2_A aM_x2.length vM_2_c] 26
  clear hb1
  have hb2 := below_alloc' (w.alloc (.cells #[.int .i64 aM_x0, .slice vM_1_A aM_x1.length vM_1_c, .slice vM_2_A aM_x2.length vM_2_c] 26)) (.cells #[.int .i64 aF_x0, .slice vF_1_A aF_x1.length vF_1_c] 24)
  have y2 := size_alloc' (w.alloc (.cells #[.int .i64 aM_x0, .slice vM_1_A aM_x1.length vM_1_c, .slice vM_2_A aM_x2.length vM_2_c] 26)) (.cells #[.int .i64 aF_x0, .slice vF_1_A aF_x1.length vF_1_c] 24)
  replace b1 := b1.below hb2
  replace A := A.trans (hb2.mono A.size)
  have z2 := hb2.size
  have b2 := Bk.new (w.alloc (.cells #[.int .i64 aM_x0, .slice vM_1_A aM_x1.length vM_1_c, .slice vM_2_A aM_x2.length vM_2_c] 26)) #[.int .i64 aF_x0, .slice vF_1_A aF_x1.length vF_1_c] 24
  rw [show (w.alloc (.cells #[.int .i64 aM_x0, .slice vM_1_A aM_x1.length vM_1_c, .slice vM_2_A aM_x2.length vM_2_c] 26)).heap.size = w.heap.size + 1 by simp] at b2
  clear hb2
  have b1s := b1.1
  have b1c := b1.2
  have b2s := b2.1
  have b2c := b2.2
  go_wp2_with fail
  clear b1s b1c b2s b2c
  refine (u_sz_Model aM_x0 _ aM_x1 _ aM_x2 _ _ (hM_1.below A) (hM_2.below A) (by omega)).mono ?_
  rintro e w3 ⟨rfl, hb⟩
  replace b1 := b1.below hb
  replace b2 := b2.below hb
  replace A := A.trans (hb.mono A.size)
  have z3 := hb.size
  clear hb
  rw [szL_pos (by omega)]
  have b1s := b1.1
  have b1c := b1.2
  have b2s := b2.1
  have b2c := b2.2
  go_wp2_with fail
  clear b1s b1c b2s b2c
  refine (u_sz_SN _ aA_x0 _ _ (hA_0.below A) (by omega)).mono ?_
  rintro e w4 ⟨rfl, hb⟩
  replace b1 := b1.below hb
  replace b2 := b2.below hb
  replace A := A.trans (hb.mono A.size)
  have z4 := hb.size
  clear hb
  rw [szL_pos (by omega)]
  have b1s := b1.1
  have b1c := b1.2
  have b2s := b2.1
  have b2c := b2.2
  go_wp2_with fail
  clear b1s b1c b2s b2c
  refine (u_sz_Frame aF_x0 _ aF_x1 _ _ (hF_1.below A) (by omega)).mono ?_
  rintro e w5 ⟨rfl, hb⟩
  replace b1 := b1.below hb
  replace b2 := b2.below hb
  replace A := A.trans (hb.mono A.size)
  have z5 := hb.size
  clear hb
  rw [szL_pos (by omega)]
  have b1s := b1.1
  have b1c := b1.2
  have b2s := b2.1
  have b2c := b2.2
  go_wp2_with fail
  clear b1s b1c b2s b2c
  have cM_0 : w5.cell? ⟨w.heap.size, 0, none⟩ = some (.int .i64 aM_x0) := b1.2 0
  have cM_1 : w5.cell? ⟨w.heap.size, 1, none⟩ = some (.slice vM_1_A aM_x1.length vM_1_c) := b1.2 1
  have cM_2 : w5.cell? ⟨w.heap.size, 2, none⟩ = some (.slice vM_2_A aM_x2.length vM_2_c) := b1.2 2
  have lM := b1.1
  have cF_0 : w5.cell? ⟨w.heap.size + 1, 0, none⟩ = some (.int .i64 aF_x0) := b2.2 0
  have cF_1 : w5.cell? ⟨w.heap.size + 1, 1, none⟩ = some (.slice vF_1_A aF_x1.length vF_1_c) := b2.2 1
  have lF := b2.1
  have hGP : ∀ w w' cs, (fun X cs => ∃ r0_1 r0_2 : Value, cs = #[.int .i64 r0_x0, r0_1, r0_2] ∧ Ow cI 2 w5.heap.size X r0_1 r0_x1 ∧ Ow cI 2 w5.heap.size X r0_2 r0_x2) w cs → (RB (w5.heap.size) 33 (fun X cs => ∃ r0_1 r0_2 : Value, cs = #[.int .i64 r0_x0, r0_1, r0_2] ∧ Ow cI 2 w5.heap.size X r0_1 r0_x1 ∧ Ow cI 2 w5.heap.size X r0_2 r0_x2)) w w' → (fun X cs => ∃ r0_1 r0_2 : Value, cs = #[.int .i64 r0_x0, r0_1, r0_2] ∧ Ow cI 2 w5.heap.size X r0_1 r0_x1 ∧ Ow cI 2 w5.heap.size X r0_2 r0_x2) w' cs := fun _ _ _ ⟨xr0_1, xr0_2, h0, yr0_1, yr0_2⟩ hR => ⟨_, _, h0, yr0_1.rb hR (by decide), yr0_2.rb hR (by decide)⟩
  refine wp_region_relyR (RB.steps hGP) ((RB (w5.heap.size) 33 (fun X cs => ∃ r0_1 r0_2 : Value, cs = #[.int .i64 r0_x0, r0_1, r0_2] ∧ Ow cI 2 w5.heap.size X r0_1 r0_x1 ∧ Ow cI 2 w5.heap.size X r0_2 r0_x2)) w5) [fun _ v _ => v = .agg #[.int .i64 aM_x0, .slice vM_1_A aM_x1.length vM_1_c, .slice vM_2_A aM_x2.length vM_2_c],
    fun _ v X => ∃ u1 u2 : Value, v = .agg #[.int .i64 aM_x0, u1, u2] ∧ Ow cI 2 0 X u1 aM_x1 ∧ Ow cI 2 0 X u2 aM_x2,
    fun _ v _ => v = vA_0,
    fun _ v X => ∃ u0 : Value, v = u0 ∧ Ow cN 70 0 X u0 aA_x0,
    fun _ v _ => v = .agg #[.int .i64 aF_x0, .slice vF_1_A aF_x1.length vF_1_c],
    fun _ v X => ∃ u1 : Value, v = .agg #[.int .i64 aF_x0, u1] ∧ Ow cI 2 0 X u1 aF_x1,
    fun _ v X => ∃ r0_1 r0_2 : Value, v = .tuple #[.agg #[.int .i64 r0_x0, r0_1, r0_2], .int .i64 r1_x0] ∧ Ow cI 2 w5.heap.size X r0_1 r0_x1 ∧ Ow cI 2 w5.heap.size X r0_2 r0_x2,
    fun _ v X => ∃ r0_1 r0_2 : Value, v = .tuple #[.agg #[.int .i64 r0_x0, r0_1, r0_2], .int .i64 r1_x0] ∧ Ow cI 2 w5.heap.size X r0_1 r0_x1 ∧ Ow cI 2 w5.heap.size X r0_2 r0_x2,
    fun _ v X => ∃ r0_1 r0_2 : Value, v = .agg #[.int .i64 r0_x0, r0_1, r0_2] ∧ Ow cI 2 w5.heap.size X r0_1 r0_x1 ∧ Ow cI 2 w5.heap.size X r0_2 r0_x2,
    fun _ v _ => v = .int .i64 r1_x0,
    fun _ v X => ∃ g, v = .pointer (some ⟨g, 0, none⟩) ∧ w5.heap.size ≤ g ∧ ∃ cs : Array Value, cs.size = 3 ∧ Blk X g 33 cs,
    fun q _ X => ∀ g z, q = [.pointer (some ⟨g, 0, none⟩), z] → ∃ cs, (fun X cs => ∃ r0_1 r0_2 : Value, cs = #[.int .i64 r0_x0, r0_1, r0_2] ∧ Ow cI 2 w5.heap.size X r0_1 r0_x1 ∧ Ow cI 2 w5.heap.size X r0_2 r0_x2) X cs ∧ Blk X g 33 cs,
    fun _ v _ => v = .int .i64 r1_x0]
      [] [(some 36, []), (some 37, [(0, some 36)]), (some 38, []), (some 39, [(2, some 38)]), (some 40, []), (some 41, [(4, some 40)]), (some 42, [(1, some 37), (3, some 39), (5, some 41)]), (some 35, [(6, some 42)]), (some 43, [(7, some 35)]), (some 44, [(7, some 35)]), (some 8, []), (none, [(10, some 8), (8, some 43)]), (some 9, [(9, some 44)])] 142 (by kernel_rfl) (by kernel_rfl) rfl (RB.of_below ((Below.refl _ _).drew)) (fun X Y h hb => (RB.steps hGP).trans _ _ _ h hb) ?st6 ?en6
  case st6 =>
    refine stepsR_cons ?_ (stepsR_cons ?_ (stepsR_cons ?_ (stepsR_cons ?_ (stepsR_cons ?_ (stepsR_cons ?_ (stepsR_cons ?_ (stepsR_cons ?_ (stepsR_cons ?_ (stepsR_cons ?_ (stepsR_cons ?_ (stepsR_cons ?_ (stepsR_cons ?_ stepsR_nil))))))))))))
    · intro X hX
      have cM_0' := ((hX.lowBelow (Nat.le_refl _) (Nat.le_refl _)).cell (p := ⟨w.heap.size, 0, none⟩) lM).trans cM_0
      have cM_1' := ((hX.lowBelow (Nat.le_refl _) (Nat.le_refl _)).cell (p := ⟨w.heap.size, 1, none⟩) lM).trans cM_1
      have cM_2' := ((hX.lowBelow (Nat.le_refl _) (Nat.le_refl _)).cell (p := ⟨w.heap.size, 2, none⟩) lM).trans cM_2
      refine stepR_of rfl ?_
      intro K hK
      go_simp
      exact hK _ _ (RB.of_below (Below.refl _ _)) rfl (fun h => absurd rfl h) rfl
    · intro X hX v0 f0
      obtain ⟨q0, X0, hX0, rfl⟩ := f0
      refine stepR_of rfl ?_
      intro K hK
      go_simp
      refine (u_to_Model aM_x0 _ aM_x1 _ aM_x2 _ (hM_1.below (A.trans ((hX.below (Nat.le_refl _)).mono A.size))) (hM_2.below (A.trans ((hX.below (Nat.le_refl _)).mono A.size))) (by omega)).mono ?_
      rintro e X5 ⟨u1, u2, H, rfl, hH1, hH2, o0, o1, hb⟩
      exact hK _ _ (RB.of_below hb) ⟨_, _, rfl, o0.1.mono (Nat.zero_le _), o1.1.mono (Nat.zero_le _)⟩ (fun h => absurd rfl h) rfl
    · intro X hX
      refine stepR_of rfl ?_
      intro K hK
      go_simp
      exact hK _ _ (RB.of_below (Below.refl _ _)) rfl (fun h => absurd rfl h) rfl
    · intro X hX v0 f0
      obtain ⟨q0, X0, hX0, rfl⟩ := f0
      refine stepR_of rfl ?_
      intro K hK
      go_simp
      refine (u_to_SN _ aA_x0 _ (hA_0.below (A.trans ((hX.below (Nat.le_refl _)).mono A.size))) (by omega)).mono ?_
      rintro e X5 ⟨u0, rfl, o0, hb⟩
      exact hK _ _ (RB.of_below hb) ⟨_, rfl, o0.1.mono (Nat.zero_le _)⟩ (fun h => absurd rfl h) rfl
    · intro X hX
      have cF_0' := ((hX.lowBelow (Nat.le_refl _) (Nat.le_refl _)).cell (p := ⟨w.heap.size + 1, 0, none⟩) lF).trans cF_0
      have cF_1' := ((hX.lowBelow (Nat.le_refl _) (Nat.le_refl _)).cell (p := ⟨w.heap.size + 1, 1, none⟩) lF).trans cF_1
      refine stepR_of rfl ?_
      intro K hK
      go_simp
      exact hK _ _ (RB.of_below (Below.refl _ _)) rfl (fun h => absurd rfl h) rfl
    · intro X hX v0 f0
      obtain ⟨q0, X0, hX0, rfl⟩ := f0
      refine stepR_of rfl ?_
      intro K hK
      go_simp
      refine (u_to_Frame aF_x0 _ aF_x1 _ (hF_1.below (A.trans ((hX.below (Nat.le_refl _)).mono A.size))) (by omega)).mono ?_
      rintro e X5 ⟨u1, rfl, o0, hb⟩
      exact hK _ _ (RB.of_below hb) ⟨_, rfl, o0.1.mono (Nat.zero_le _)⟩ (fun h => absurd rfl h) rfl
    · intro X hX v0 f0 v1 f1 v2 f2
      obtain ⟨q0, X0, hX0, p0_0, p0_1, rfl, s0_0, s0_1⟩ := f0
      obtain ⟨q1, X1, hX1, p1_0, rfl, s1_0⟩ := f1
      obtain ⟨q2, X2, hX2, p2_0, rfl, s2_0⟩ := f2
      refine stepR_of rfl ?_
      intro K hK
      go_simp
      refine (HS.out X _ _ _ _ (s0_0.rb hX0 (by decide)).sl (s0_1.rb hX0 (by decide)).sl (s1_0.rb hX1 (by decide)).sl (s2_0.rb hX2 (by decide)).sl).mono ?_
      rintro e X9 ⟨r0_1, r0_2, rfl, or0_1, or0_2, hb⟩
      obtain ⟨Ar0_1, cr0_1, rfl⟩ := or0_1.opn
      obtain ⟨Ar0_2, cr0_2, rfl⟩ := or0_2.opn
      exact hK _ _ (RB.of_below hb) ⟨_, _, rfl, or0_1.1.mono hX.size, or0_2.1.mono hX.size⟩ (fun h => absurd rfl h) rfl
    · intro X hX v0 f0
      obtain ⟨q0, X0, hX0, r0_1, r0_2, rfl, or0_1, or0_2⟩ := f0
      obtain ⟨Ar0_1, cr0_1, rfl⟩ := or0_1.opn
      obtain ⟨Ar0_2, cr0_2, rfl⟩ := or0_2.opn
      replace or0_1 := or0_1.rb hX0 (by decide)
      replace or0_2 := or0_2.rb hX0 (by decide)
      refine stepR_of rfl ?_
      intro K hK
      go_simp
      exact hK _ _ (RB.of_below (Below.refl _ _)) ⟨_, _, rfl, or0_1, or0_2⟩ (fun h => absurd rfl h) rfl
    · intro X hX v0 f0
      obtain ⟨q0, X0, hX0, r0_1, r0_2, rfl, or0_1, or0_2⟩ := f0
      obtain ⟨Ar0_1, cr0_1, rfl⟩ := or0_1.opn
      obtain ⟨Ar0_2, cr0_2, rfl⟩ := or0_2.opn
      replace or0_1 := or0_1.rb hX0 (by decide)
      replace or0_2 := or0_2.rb hX0 (by decide)
      refine stepR_of rfl ?_
      intro K hK
      go_simp
      exact hK _ _ (RB.of_below (Below.refl _ _)) ⟨_, _, rfl, or0_1, or0_2⟩ (fun h => absurd rfl h) rfl
    · intro X hX v0 f0
      obtain ⟨q0, X0, hX0, r0_1, r0_2, rfl, or0_1, or0_2⟩ := f0
      obtain ⟨Ar0_1, cr0_1, rfl⟩ := or0_1.opn
      obtain ⟨Ar0_2, cr0_2, rfl⟩ := or0_2.opn
      replace or0_1 := or0_1.rb hX0 (by decide)
      replace or0_2 := or0_2.rb hX0 (by decide)
      refine stepR_of rfl ?_
      intro K hK
      go_simp
      exact hK _ _ (RB.of_below (Below.refl _ _)) rfl (fun h => absurd rfl h) rfl
    · intro X hX
      refine stepR_of rfl ?_
      intro K hK
      go_simp
      exact hK _ _ (RB.of_below (below_alloc' X _)) ⟨X.heap.size, rfl, hX.size, _, rfl, Blk.new X _ _⟩ (fun h => absurd rfl h) rfl
    · intro X hX v0 f0 v1 f1
      obtain ⟨q0, X0, hX0, g, rfl, hg, hbx⟩ := f0
      obtain ⟨q1, X1, hX1, r0_1, r0_2, rfl, or0_1, or0_2⟩ := f1
      obtain ⟨cs, hcs, hk⟩ := hX0.box hbx
      obtain ⟨z0, z1, z2, rfl⟩ := arr3 hcs
      obtain ⟨Ar0_1, cr0_1, rfl⟩ := or0_1.opn
      replace or0_1 := or0_1.rb hX1 (by decide)
      have nr0_1 := hk.ne_own or0_1 (by decide)
      obtain ⟨Ar0_2, cr0_2, rfl⟩ := or0_2.opn
      replace or0_2 := or0_2.rb hX1 (by decide)
      have nr0_2 := hk.ne_own or0_2 (by decide)
      have kc := hk.cell; have kf := hk.frozen; have kl := hk.lt
      refine stepR_of rfl ?_
      intro K hK
      go_simp
      refine hK _ _ (RB.fill hg hk (((hk.set_ 0 _).set_ 1 _).set_ 2 _) rfl ?gp (fun k hkk => (Below.heap_setCell _ _ _ k hkk).trans ((Below.heap_setCell _ _ _ k hkk).trans (Below.heap_setCell _ _ _ k hkk))) (by simp [World.setCell]) rfl rfl rfl) (fun g' z h => ?_) (fun h => absurd rfl h) rfl
      case gp => exact ⟨_, _, rfl, (((or0_1.far nr0_1 _).far nr0_1 _).far nr0_1 _), (((or0_2.far nr0_2 _).far nr0_2 _).far nr0_2 _)⟩
      simp only [List.nil_append, List.cons_append, List.cons.injEq, Value.pointer.injEq, Option.some.injEq, Addr.mk.injEq, and_true, true_and] at h
      obtain ⟨h1, -⟩ := h
      subst h1
      exact ⟨_, ⟨_, _, rfl, (((or0_1.far nr0_1 _).far nr0_1 _).far nr0_1 _), (((or0_2.far nr0_2 _).far nr0_2 _).far nr0_2 _)⟩, (((hk.set_ 0 _).set_ 1 _).set_ 2 _)⟩
    · intro X hX v0 f0
      obtain ⟨q0, X0, hX0, rfl⟩ := f0
      refine stepR_of rfl ?_
      intro K hK
      go_simp
      exact hK _ _ (RB.of_below (Below.refl _ _)) rfl (fun h => absurd rfl h) rfl
  intro w6 hX v0 f0 v1 f1 v2 f2 v3 f3 v4 f4 v5 f5 v6 f6 v7 f7 v8 f8 v9 f9 v10 f10 v11 f11 v12 f12 hsep
  obtain ⟨_, _, g6, rfl, hg6, -⟩ := f10
  obtain ⟨_, hXs, hs⟩ := f11
  obtain ⟨cs, ⟨r0_1, r0_2, rfl, or0_1, or0_2⟩, hk6⟩ := hXs.good hGP (hs _ _ rfl)
  obtain ⟨_, _, rfl⟩ := f9
  obtain ⟨_, _, rfl⟩ := f12
  obtain ⟨Ar0_1_6, cr0_1_6, rfl⟩ := or0_1.opn
  have p6_r0_1 := or0_1.ob
  obtain ⟨Ar0_2_6, cr0_2_6, rfl⟩ := or0_2.opn
  have p6_r0_2 := or0_2.ob
  have b6 : Bk w6 g6 #[.int .i64 r0_x0, .slice Ar0_1_6 r0_x1.length cr0_1_6, .slice Ar0_2_6 r0_x2.length cr0_2_6] := ⟨hk6.lt, hk6.cell⟩
  have hI := hX.below (Nat.le_refl _)
  clear hsep hX hXs hs hGP hk6 or0_1 or0_2 f0 f1 f2 f3 f4 f5 f6 f7 f8
  clear cM_0 cM_1 cM_2 cF_0 cF_1 lM lF
  simp only [List.length_cons, List.length_nil, List.drop_succ_cons, List.drop_zero, List.drop_nil]
  replace b1 := b1.below hI
  replace b2 := b2.below hI
  replace A := A.trans (hI.mono A.size)
  have z6 := hI.size
  clear hI
  have g6lt := b6.1
  have b1s := b1.1
  have b1c := b1.2
  have b2s := b2.1
  have b2c := b2.2
  have b6s := b6.1
  have b6c := b6.2
  go_wp2_with fail
  clear b1s b1c b2s b2c b6s b6c
  refine (u_to_Model aM_x0 _ aM_x1 _ aM_x2 _ (hM_1.below A) (hM_2.below A) (by omega)).mono ?_
  rintro e w7 ⟨xM_v1, xM_v2, H7_, rfl, hH7_a, hH7_b, o7_1, o7_2, hb⟩
  replace p6_r0_1 := p6_r0_1.below hb
  replace p6_r0_2 := p6_r0_2.below hb
  replace b1 := b1.below hb
  replace b2 := b2.below hb
  replace b6 := b6.below hb
  replace A := A.trans (hb.mono A.size)
  have z7 := hb.size
  clear hb
  obtain ⟨xM_v1_A, xM_v1_c, rfl⟩ := o7_1.opn
  obtain ⟨xM_v2_A, xM_v2_c, rfl⟩ := o7_2.opn
  have hb8 := below_alloc' w7 (.cells #[.int .i64 aM_x0, .slice xM_v1_A aM_x1.length xM_v1_c, .slice xM_v2_A aM_x2.length xM_v2_c] 33)
  have y8 := size_alloc' w7 (.cells #[.int .i64 aM_x0, .slice xM_v1_A aM_x1.length xM_v1_c, .slice xM_v2_A aM_x2.length xM_v2_c] 33)
  replace p6_r0_1 := p6_r0_1.below hb8
  replace p6_r0_2 := p6_r0_2.below hb8
  replace o7_1 := o7_1.below hb8
  replace o7_2 := o7_2.below hb8
  replace b1 := b1.below hb8
  replace b2 := b2.below hb8
  replace b6 := b6.below hb8
  replace A := A.trans (hb8.mono A.size)
  have z8 := hb8.size
  have b8 := Bk.new w7 #[.int .i64 aM_x0, .slice xM_v1_A aM_x1.length xM_v1_c, .slice xM_v2_A aM_x2.length xM_v2_c] 33
  clear hb8
  have b1s := b1.1
  have b1c := b1.2
  have b2s := b2.1
  have b2c := b2.2
  have b6s := b6.1
  have b6c := b6.2
  have b8s := b8.1
  have b8c := b8.2
  go_wp2_with fail
  clear b1s b1c b2s b2c b6s b6c b8s b8c
  refine (u_to_SN _ aA_x0 _ (hA_0.below A) (by omega)).mono ?_
  rintro e w9 ⟨xA_v0, rfl, o9_0, hb⟩
  replace p6_r0_1 := p6_r0_1.below hb
  replace p6_r0_2 := p6_r0_2.below hb
  replace o7_1 := o7_1.below hb
  replace o7_2 := o7_2.below hb
  replace b1 := b1.below hb
  replace b2 := b2.below hb
  replace b6 := b6.below hb
  replace b8 := b8.below hb
  replace A := A.trans (hb.mono A.size)
  have z9 := hb.size
  clear hb
  have b1s := b1.1
  have b1c := b1.2
  have b2s := b2.1
  have b2c := b2.2
  have b6s := b6.1
  have b6c := b6.2
  have b8s := b8.1
  have b8c := b8.2
  go_wp2_with fail
  clear b1s b1c b2s b2c b6s b6c b8s b8c
  refine (u_to_Frame aF_x0 _ aF_x1 _ (hF_1.below A) (by omega)).mono ?_
  rintro e w10 ⟨xF_v1, rfl, o10_1, hb⟩
  replace p6_r0_1 := p6_r0_1.below hb
  replace p6_r0_2 := p6_r0_2.below hb
  replace o7_1 := o7_1.below hb
  replace o7_2 := o7_2.below hb
  replace o9_0 := o9_0.below hb
  replace b1 := b1.below hb
  replace b2 := b2.below hb
  replace b6 := b6.below hb
  replace b8 := b8.below hb
  replace A := A.trans (hb.mono A.size)
  have z10 := hb.size
  clear hb
  obtain ⟨xF_v1_A, xF_v1_c, rfl⟩ := o10_1.opn
  have hb11 := below_alloc' w10 (.cells #[.int .i64 aF_x0, .slice xF_v1_A aF_x1.length xF_v1_c] 31)
  have y11 := size_alloc' w10 (.cells #[.int .i64 aF_x0, .slice xF_v1_A aF_x1.length xF_v1_c] 31)
  replace p6_r0_1 := p6_r0_1.below hb11
  replace p6_r0_2 := p6_r0_2.below hb11
  replace o7_1 := o7_1.below hb11
  replace o7_2 := o7_2.below hb11
  replace o9_0 := o9_0.below hb11
  replace o10_1 := o10_1.below hb11
  replace b1 := b1.below hb11
  replace b2 := b2.below hb11
  replace b6 := b6.below hb11
  replace b8 := b8.below hb11
  replace A := A.trans (hb11.mono A.size)
  have z11 := hb11.size
  have b11 := Bk.new w10 #[.int .i64 aF_x0, .slice xF_v1_A aF_x1.length xF_v1_c] 31
  clear hb11
  have b1s := b1.1
  have b1c := b1.2
  have b2s := b2.1
  have b2c := b2.2
  have b6s := b6.1
  have b6c := b6.2
  have b8s := b8.1
  have b8c := b8.2
  have b11s := b11.1
  have b11c := b11.2
  go_wp2_with fail
  clear b1s b1c b2s b2c b6s b6c b8s b8c b11s b11c
  refine (HI.out _ _ _ _ _ o7_1.sl o7_2.sl o9_0.sl o10_1.sl).mono ?_
  rintro e w12 ⟨g0_v1, g0_v2, rfl, r12_g0_1, r12_g0_2, dj12_g0, hb⟩
  replace p6_r0_1 := p6_r0_1.below hb
  replace p6_r0_2 := p6_r0_2.below hb
  replace o7_1 := o7_1.below hb
  replace o7_2 := o7_2.below hb
  replace o9_0 := o9_0.below hb
  replace o10_1 := o10_1.below hb
  replace b1 := b1.below hb
  replace b2 := b2.below hb
  replace b6 := b6.below hb
  replace b8 := b8.below hb
  replace b11 := b11.below hb
  replace A := A.trans (hb.mono A.size)
  have z12 := hb.size
  clear hb
  obtain ⟨g0_v1_A, g0_v1_c, rfl⟩ := r12_g0_1.opn
  obtain ⟨g0_v2_A, g0_v2_c, rfl⟩ := r12_g0_2.opn
  have DJ12_g0 := Lib.hid dj12_g0; clear dj12_g0
  have hb13 := below_alloc' w12 (.cells #[.int .i64 r0_x0, .slice g0_v1_A r0_x1.length g0_v1_c, .slice g0_v2_A r0_x2.length g0_v2_c] 33)
  have y13 := size_alloc' w12 (.cells #[.int .i64 r0_x0, .slice g0_v1_A r0_x1.length g0_v1_c, .slice g0_v2_A r0_x2.length g0_v2_c] 33)
  replace p6_r0_1 := p6_r0_1.below hb13
  replace p6_r0_2 := p6_r0_2.below hb13
  replace o7_1 := o7_1.below hb13
  replace o7_2 := o7_2.below hb13
  replace o9_0 := o9_0.below hb13
  replace o10_1 := o10_1.below hb13
  replace r12_g0_1 := r12_g0_1.below hb13
  replace r12_g0_2 := r12_g0_2.below hb13
  replace b1 := b1.below hb13
  replace b2 := b2.below hb13
  replace b6 := b6.below hb13
  replace b8 := b8.below hb13
  replace b11 := b11.below hb13
  replace A := A.trans (hb13.mono A.size)
  have z13 := hb13.size
  have b13 := Bk.new w12 #[.int .i64 r0_x0, .slice g0_v1_A r0_x1.length g0_v1_c, .slice g0_v2_A r0_x2.length g0_v2_c] 33
  clear hb13
  have b1s := b1.1
  have b1c := b1.2
  have b2s := b2.1
  have b2c := b2.2
  have b6s := b6.1
  have b6c := b6.2
  have b8s := b8.1
  have b8c := b8.2
  have b11s := b11.1
  have b11c := b11.2
  have b13s := b13.1
  have b13c := b13.2
  go_wp2_with fail
  clear b1s b1c b2s b2c b6s b6c b8s b8c b11s b11c b13s b13c
  refine (u_eq_Model r0_x0 _ _ r0_x1 _ _ r0_x2 _ r12_g0_1.sl r12_g0_2.sl p6_r0_1.sl p6_r0_2.sl (by omega)).mono ?_
  rintro e w14 ⟨rfl, hb⟩
  replace p6_r0_1 := p6_r0_1.below hb
  replace p6_r0_2 := p6_r0_2.below hb
  replace o7_1 := o7_1.below hb
  replace o7_2 := o7_2.below hb
  replace o9_0 := o9_0.below hb
  replace o10_1 := o10_1.below hb
  replace r12_g0_1 := r12_g0_1.below hb
  replace r12_g0_2 := r12_g0_2.below hb
  replace b1 := b1.below hb
  replace b2 := b2.below hb
  replace b6 := b6.below hb
  replace b8 := b8.below hb
  replace b11 := b11.below hb
  replace b13 := b13.below hb
  replace A := A.trans (hb.mono A.size)
  have z14 := hb.size
  clear hb
  have b1s := b1.1
  have b1c := b1.2
  have b2s := b2.1
  have b2c := b2.2
  have b6s := b6.1
  have b6c := b6.2
  have b8s := b8.1
  have b8c := b8.2
  have b11s := b11.1
  have b11c := b11.2
  have b13s := b13.1
  have b13c := b13.2
  go_wp2_with fail
  clear b1s b1c b2s b2c b6s b6c b8s b8c b11s b11c b13s b13c
  have hq16_1 := hM_1.below A
  have hq16_2 := hM_2.below A
  have c0 : w14.cell? ⟨w7.heap.size, 0, none⟩ = some (.int .i64 aM_x0) := b8.2 0
  have c1 : w14.cell? ⟨w7.heap.size, 1, none⟩ = some (.slice xM_v1_A aM_x1.length xM_v1_c) := b8.2 1
  have c2 : w14.cell? ⟨w7.heap.size, 2, none⟩ = some (.slice xM_v2_A aM_x2.length xM_v2_c) := b8.2 2
  have d0 : w14.cell? ⟨w.heap.size, 0, none⟩ = some (.int .i64 aM_x0) := b1.2 0
  have d1 : w14.cell? ⟨w.heap.size, 1, none⟩ = some (.slice vM_1_A aM_x1.length vM_1_c) := b1.2 1
  have d2 : w14.cell? ⟨w.heap.size, 2, none⟩ = some (.slice vM_2_A aM_x2.length vM_2_c) := b1.2 2
  go_region_held3 (fun w' => w'.cell? ⟨w7.heap.size, 0, none⟩ = some (.int .i64 aM_x0) ∧ w'.cell? ⟨w7.heap.size, 1, none⟩ = some (.slice xM_v1_A aM_x1.length xM_v1_c) ∧ w'.cell? ⟨w7.heap.size, 2, none⟩ = some (.slice xM_v2_A aM_x2.length xM_v2_c) ∧ w'.cell? ⟨w.heap.size, 0, none⟩ = some (.int .i64 aM_x0) ∧ w'.cell? ⟨w.heap.size, 1, none⟩ = some (.slice vM_1_A aM_x1.length vM_1_c) ∧ w'.cell? ⟨w.heap.size, 2, none⟩ = some (.slice vM_2_A aM_x2.length vM_2_c)) (first | exact ⟨c0'', c1'', c2'', d0'', d1'', d2''⟩ | exact ⟨c0', c1', c2', d0', d1', d2'⟩ | exact ⟨c0, c1, c2, d0, d1, d2⟩ | (simp [*]; done)) (first | (go_at_call 10; refine (u_to_Model aM_x0 _ aM_x1 _ aM_x2 _ (hq16_1.below (below_drewN (Below.refl _ _) 1)) (hq16_2.below (below_drewN (Below.refl _ _) 1)) (by omega)).mono ?_; rintro e w15 ⟨y16_1, y16_2, Hy16_, rfl, hHy16_a, hHy16_b, oy16_1, oy16_2, hbP⟩; obtain ⟨y16_1_A, y16_1_c, rfl⟩ := oy16_1.opn; obtain ⟨y16_2_A, y16_2_c, rfl⟩ := oy16_2.opn; have hbP1 : Below w14.heap.size w14 w15 := (below_drewN (Below.refl _ _) 1).trans hbP; have c0' := (hbP1.cell (p := ⟨w7.heap.size, 0, none⟩) b8.1).trans c0; have c1' := (hbP1.cell (p := ⟨w7.heap.size, 1, none⟩) b8.1).trans c1; have c2' := (hbP1.cell (p := ⟨w7.heap.size, 2, none⟩) b8.1).trans c2; have d0' := (hbP1.cell (p := ⟨w.heap.size, 0, none⟩) b1.1).trans d0; have d1' := (hbP1.cell (p := ⟨w.heap.size, 1, none⟩) b1.1).trans d1; have d2' := (hbP1.cell (p := ⟨w.heap.size, 2, none⟩) b1.1).trans d2) | (go_at_call 14; refine (u_eq_Model aM_x0 _ _ aM_x1 _ _ aM_x2 _ (o7_1.below hbP1).sl (o7_2.below hbP1).sl oy16_1.sl oy16_2.sl (by omega)).mono ?_; rintro e w16 ⟨rfl, hbQ⟩; have c0'' := (hbQ.cell (p := ⟨w7.heap.size, 0, none⟩) (b8.below hbP1).1).trans c0'; have c1'' := (hbQ.cell (p := ⟨w7.heap.size, 1, none⟩) (b8.below hbP1).1).trans c1'; have c2'' := (hbQ.cell (p := ⟨w7.heap.size, 2, none⟩) (b8.below hbP1).1).trans c2'; have d0'' := (hbQ.cell (p := ⟨w.heap.size, 0, none⟩) (b1.below hbP1).1).trans d0'; have d1'' := (hbQ.cell (p := ⟨w.heap.size, 1, none⟩) (b1.below hbP1).1).trans d1'; have d2'' := (hbQ.cell (p := ⟨w.heap.size, 2, none⟩) (b1.below hbP1).1).trans d2'))
  have hb := bthen hbP1 hbQ
  clear c0'' c0' c0 c1'' c1' c1 c2'' c2' c2 d0'' d0' d0 d1'' d1' d1 d2'' d2' d2
  clear hbP hbQ hbP1 oy16_1 oy16_2
  clear hq16_1
  clear hq16_2
  replace p6_r0_1 := p6_r0_1.below hb
  replace p6_r0_2 := p6_r0_2.below hb
  replace o7_1 := o7_1.below hb
  replace o7_2 := o7_2.below hb
  replace o9_0 := o9_0.below hb
  replace o10_1 := o10_1.below hb
  replace r12_g0_1 := r12_g0_1.below hb
  replace r12_g0_2 := r12_g0_2.below hb
  replace b1 := b1.below hb
  replace b2 := b2.below hb
  replace b6 := b6.below hb
  replace b8 := b8.below hb
  replace b11 := b11.below hb
  replace b13 := b13.below hb
  replace A := A.trans (hb.mono A.size)
  have z16 := hb.size
  clear hb
  have b1s := b1.1
  have b1c := b1.2
  have b2s := b2.1
  have b2c := b2.2
  have b6s := b6.1
  have b6c := b6.2
  have b8s := b8.1
  have b8c := b8.2
  have b11s := b11.1
  have b11c := b11.2
  have b13s := b13.1
  have b13c := b13.2
  go_wp2_with fail
  clear b1s b1c b2s b2c b6s b6c b8s b8c b11s b11c b13s b13c
  refine (u_to_SN _ aA_x0 _ (hA_0.below A) (by omega)).mono ?_
  rintro e w17 ⟨yA_v0, rfl, o17_0, hb⟩
  replace p6_r0_1 := p6_r0_1.below hb
  replace p6_r0_2 := p6_r0_2.below hb
  replace o7_1 := o7_1.below hb
  replace o7_2 := o7_2.below hb
  replace o9_0 := o9_0.below hb
  replace o10_1 := o10_1.below hb
  replace r12_g0_1 := r12_g0_1.below hb
  replace r12_g0_2 := r12_g0_2.below hb
  replace b1 := b1.below hb
  replace b2 := b2.below hb
  replace b6 := b6.below hb
  replace b8 := b8.below hb
  replace b11 := b11.below hb
  replace b13 := b13.below hb
  replace A := A.trans (hb.mono A.size)
  have z17 := hb.size
  clear hb
  have b1s := b1.1
  have b1c := b1.2
  have b2s := b2.1
  have b2c := b2.2
  have b6s := b6.1
  have b6c := b6.2
  have b8s := b8.1
  have b8c := b8.2
  have b11s := b11.1
  have b11c := b11.2
  have b13s := b13.1
  have b13c := b13.2
  go_wp2_with fail
  clear b1s b1c b2s b2c b6s b6c b8s b8c b11s b11c b13s b13c
  refine (u_eq_SN _ _ aA_x0 _ o9_0.sl o17_0.sl (by omega)).mono ?_
  rintro e w18 ⟨rfl, hb⟩
  replace p6_r0_1 := p6_r0_1.below hb
  replace p6_r0_2 := p6_r0_2.below hb
  replace o7_1 := o7_1.below hb
  replace o7_2 := o7_2.below hb
  replace o9_0 := o9_0.below hb
  replace o10_1 := o10_1.below hb
  replace r12_g0_1 := r12_g0_1.below hb
  replace r12_g0_2 := r12_g0_2.below hb
  replace o17_0 := o17_0.below hb
  replace b1 := b1.below hb
  replace b2 := b2.below hb
  replace b6 := b6.below hb
  replace b8 := b8.below hb
  replace b11 := b11.below hb
  replace b13 := b13.below hb
  replace A := A.trans (hb.mono A.size)
  have z18 := hb.size
  clear hb
  clear o17_0
  have b1s := b1.1
  have b1c := b1.2
  have b2s := b2.1
  have b2c := b2.2
  have b6s := b6.1
  have b6c := b6.2
  have b8s := b8.1
  have b8c := b8.2
  have b11s := b11.1
  have b11c := b11.2
  have b13s := b13.1
  have b13c := b13.2
  go_wp2_with fail
  clear b1s b1c b2s b2c b6s b6c b8s b8c b11s b11c b13s b13c
  have hq20_1 := hF_1.below A
  have c0 : w18.cell? ⟨w10.heap.size, 0, none⟩ = some (.int .i64 aF_x0) := b11.2 0
  have c1 : w18.cell? ⟨w10.heap.size, 1, none⟩ = some (.slice xF_v1_A aF_x1.length xF_v1_c) := b11.2 1
  have d0 : w18.cell? ⟨w.heap.size + 1, 0, none⟩ = some (.int .i64 aF_x0) := b2.2 0
  have d1 : w18.cell? ⟨w.heap.size + 1, 1, none⟩ = some (.slice vF_1_A aF_x1.length vF_1_c) := b2.2 1
  go_region_held3 (fun w' => w'.cell? ⟨w10.heap.size, 0, none⟩ = some (.int .i64 aF_x0) ∧ w'.cell? ⟨w10.heap.size, 1, none⟩ = some (.slice xF_v1_A aF_x1.length xF_v1_c) ∧ w'.cell? ⟨w.heap.size + 1, 0, none⟩ = some (.int .i64 aF_x0) ∧ w'.cell? ⟨w.heap.size + 1, 1, none⟩ = some (.slice vF_1_A aF_x1.length vF_1_c)) (first | exact ⟨c0'', c1'', d0'', d1''⟩ | exact ⟨c0', c1', d0', d1'⟩ | exact ⟨c0, c1, d0, d1⟩ | (simp [*]; done)) (first | (go_at_call 12; refine (u_to_Frame aF_x0 _ aF_x1 _ (hq20_1.below (below_drewN (Below.refl _ _) 1)) (by omega)).mono ?_; rintro e w19 ⟨y20_1, rfl, oy20_1, hbP⟩; obtain ⟨y20_1_A, y20_1_c, rfl⟩ := oy20_1.opn; have hbP1 : Below w18.heap.size w18 w19 := (below_drewN (Below.refl _ _) 1).trans hbP; have c0' := (hbP1.cell (p := ⟨w10.heap.size, 0, none⟩) b11.1).trans c0; have c1' := (hbP1.cell (p := ⟨w10.heap.size, 1, none⟩) b11.1).trans c1; have d0' := (hbP1.cell (p := ⟨w.heap.size + 1, 0, none⟩) b2.1).trans d0; have d1' := (hbP1.cell (p := ⟨w.heap.size + 1, 1, none⟩) b2.1).trans d1) | (go_at_call 16; refine (u_eq_Frame aF_x0 _ _ aF_x1 _ (o10_1.below hbP1).sl oy20_1.sl (by omega)).mono ?_; rintro e w20 ⟨rfl, hbQ⟩; have c0'' := (hbQ.cell (p := ⟨w10.heap.size, 0, none⟩) (b11.below hbP1).1).trans c0'; have c1'' := (hbQ.cell (p := ⟨w10.heap.size, 1, none⟩) (b11.below hbP1).1).trans c1'; have d0'' := (hbQ.cell (p := ⟨w.heap.size + 1, 0, none⟩) (b2.below hbP1).1).trans d0'; have d1'' := (hbQ.cell (p := ⟨w.heap.size + 1, 1, none⟩) (b2.below hbP1).1).trans d1'))
  have hb := bthen hbP1 hbQ
  clear c0'' c0' c0 c1'' c1' c1 d0'' d0' d0 d1'' d1' d1
  clear hbP hbQ hbP1 oy20_1
  clear hq20_1
  replace p6_r0_1 := p6_r0_1.below hb
  replace p6_r0_2 := p6_r0_2.below hb
  replace o7_1 := o7_1.below hb
  replace o7_2 := o7_2.below hb
  replace o9_0 := o9_0.below hb
  replace o10_1 := o10_1.below hb
  replace r12_g0_1 := r12_g0_1.below hb
  replace r12_g0_2 := r12_g0_2.below hb
  replace b1 := b1.below hb
  replace b2 := b2.below hb
  replace b6 := b6.below hb
  replace b8 := b8.below hb
  replace b11 := b11.below hb
  replace b13 := b13.below hb
  replace A := A.trans (hb.mono A.size)
  have z20 := hb.size
  clear hb
  have b1s := b1.1
  have b1c := b1.2
  have b2s := b2.1
  have b2c := b2.2
  have b6s := b6.1
  have b6c := b6.2
  have b8s := b8.1
  have b8c := b8.2
  have b11s := b11.1
  have b11c := b11.2
  have b13s := b13.1
  have b13c := b13.2
  go_wp2_with fail
  clear b1s b1c b2s b2c b6s b6c b8s b8c b11s b11c b13s b13c
  refine (u_mark_Model aM_x0 _ aM_x1 _ aM_x2 _ _ _ _ _ o7_1 o7_2 (by omega) (by omega) (by omega)).mono ?_
  rintro e w21 ⟨rfl, no7_1, no7_2, hk⟩
  replace p6_r0_1 := p6_r0_1.keep hk (by omega)
  replace p6_r0_2 := p6_r0_2.keep hk (by omega)
  replace o9_0 := o9_0.keep hk (by omega)
  replace o10_1 := o10_1.keep hk (by omega)
  replace r12_g0_1 := r12_g0_1.keep hk (by omega)
  replace r12_g0_2 := r12_g0_2.keep hk (by omega)
  clear o7_1; have o7_1 := no7_1; clear no7_1
  clear o7_2; have o7_2 := no7_2; clear no7_2
  replace b1 := b1.keep hk (by omega)
  replace b2 := b2.keep hk (by omega)
  replace b6 := b6.keep hk (by omega)
  replace b8 := b8.keep hk (by omega)
  replace b11 := b11.keep hk (by omega)
  replace b13 := b13.keep hk (by omega)
  replace A := below_keep A hk (by omega) A.size
  have z21 := hk.size
  clear hk
  have b1s := b1.1
  have b1c := b1.2
  have b2s := b2.1
  have b2c := b2.2
  have b6s := b6.1
  have b6c := b6.2
  have b8s := b8.1
  have b8c := b8.2
  have b11s := b11.1
  have b11c := b11.2
  have b13s := b13.1
  have b13c := b13.2
  go_wp2_with fail
  clear b1s b1c b2s b2c b6s b6c b8s b8c b11s b11c b13s b13c
  refine (u_mark_SN _ aA_x0 _ _ _ _ o9_0 (by omega) (by omega)).mono ?_
  rintro e w22 ⟨rfl, no9_0, hk⟩
  replace p6_r0_1 := p6_r0_1.keep hk (by omega)
  replace p6_r0_2 := p6_r0_2.keep hk (by omega)
  replace o7_1 := o7_1.keep hk (by omega)
  replace o7_2 := o7_2.keep hk (by omega)
  replace o10_1 := o10_1.keep hk (by omega)
  replace r12_g0_1 := r12_g0_1.keep hk (by omega)
  replace r12_g0_2 := r12_g0_2.keep hk (by omega)
  clear o9_0; have o9_0 := no9_0; clear no9_0
  replace b1 := b1.keep hk (by omega)
  replace b2 := b2.keep hk (by omega)
  replace b6 := b6.keep hk (by omega)
  replace b8 := b8.keep hk (by omega)
  replace b11 := b11.keep hk (by omega)
  replace b13 := b13.keep hk (by omega)
  replace A := below_keep A hk (by omega) A.size
  have z22 := hk.size
  clear hk
  have b1s := b1.1
  have b1c := b1.2
  have b2s := b2.1
  have b2c := b2.2
  have b6s := b6.1
  have b6c := b6.2
  have b8s := b8.1
  have b8c := b8.2
  have b11s := b11.1
  have b11c := b11.2
  have b13s := b13.1
  have b13c := b13.2
  go_wp2_with fail
  clear b1s b1c b2s b2c b6s b6c b8s b8c b11s b11c b13s b13c
  refine (u_mark_Frame aF_x0 _ aF_x1 _ _ _ _ o10_1 (by omega) (by omega)).mono ?_
  rintro e w23 ⟨rfl, no10_1, hk⟩
  replace p6_r0_1 := p6_r0_1.keep hk (by omega)
  replace p6_r0_2 := p6_r0_2.keep hk (by omega)
  replace o7_1 := o7_1.keep hk (by omega)
  replace o7_2 := o7_2.keep hk (by omega)
  replace o9_0 := o9_0.keep hk (by omega)
  replace r12_g0_1 := r12_g0_1.keep hk (by omega)
  replace r12_g0_2 := r12_g0_2.keep hk (by omega)
  clear o10_1; have o10_1 := no10_1; clear no10_1
  replace b1 := b1.keep hk (by omega)
  replace b2 := b2.keep hk (by omega)
  replace b6 := b6.keep hk (by omega)
  replace b8 := b8.keep hk (by omega)
  replace b11 := b11.keep hk (by omega)
  replace b13 := b13.keep hk (by omega)
  replace A := below_keep A hk (by omega) A.size
  have z23 := hk.size
  clear hk
  have b1s := b1.1
  have b1c := b1.2
  have b2s := b2.1
  have b2c := b2.2
  have b6s := b6.1
  have b6c := b6.2
  have b8s := b8.1
  have b8c := b8.2
  have b11s := b11.1
  have b11c := b11.2
  have b13s := b13.1
  have b13c := b13.2
  go_wp2_with fail
  clear b1s b1c b2s b2c b6s b6c b8s b8c b11s b11c b13s b13c
  refine (u_eq_Model r0_x0 _ _ r0_x1 _ _ r0_x2 _ r12_g0_1.sl r12_g0_2.sl p6_r0_1.sl p6_r0_2.sl (by omega)).mono ?_
  rintro e w24 ⟨rfl, hb⟩
  replace p6_r0_1 := p6_r0_1.below hb
  replace p6_r0_2 := p6_r0_2.below hb
  replace o7_1 := o7_1.below hb
  replace o7_2 := o7_2.below hb
  replace o9_0 := o9_0.below hb
  replace o10_1 := o10_1.below hb
  replace r12_g0_1 := r12_g0_1.below hb
  replace r12_g0_2 := r12_g0_2.below hb
  replace b1 := b1.below hb
  replace b2 := b2.below hb
  replace b6 := b6.below hb
  replace b8 := b8.below hb
  replace b11 := b11.below hb
  replace b13 := b13.below hb
  replace A := A.trans (hb.mono A.size)
  have z24 := hb.size
  clear hb
  clear o7_1
  clear o7_2
  clear o9_0
  clear o10_1
  have b1s := b1.1
  have b1c := b1.2
  have b2s := b2.1
  have b2c := b2.2
  have b6s := b6.1
  have b6c := b6.2
  have b8s := b8.1
  have b8c := b8.2
  have b11s := b11.1
  have b11c := b11.2
  have b13s := b13.1
  have b13c := b13.2
  go_wp2_with fail
  clear b1s b1c b2s b2c b6s b6c b8s b8c b11s b11c b13s b13c
  refine (u_mark_Model2 r0_x0 _ r0_x1 _ r0_x2 _ _ _ _ r12_g0_1 r12_g0_2 DJ12_g0.out (by omega) (by omega) (by omega)).mono ?_
  rintro e w25 ⟨rfl, nr12_g0_1, nr12_g0_2, hk⟩
  replace p6_r0_1 := p6_r0_1.keep hk (by omega)
  replace p6_r0_2 := p6_r0_2.keep hk (by omega)
  clear r12_g0_1; have r12_g0_1 := nr12_g0_1; clear nr12_g0_1
  clear r12_g0_2; have r12_g0_2 := nr12_g0_2; clear nr12_g0_2
  replace b1 := b1.keep hk (by omega)
  replace b2 := b2.keep hk (by omega)
  replace b6 := b6.keep hk (by omega)
  replace b8 := b8.keep hk (by omega)
  replace b11 := b11.keep hk (by omega)
  replace b13 := b13.keep hk (by omega)
  replace A := below_keep A hk (by omega) A.size
  have z25 := hk.size
  clear hk
  have b1s := b1.1
  have b1c := b1.2
  have b2s := b2.1
  have b2c := b2.2
  have b6s := b6.1
  have b6c := b6.2
  have b8s := b8.1
  have b8c := b8.2
  have b11s := b11.1
  have b11c := b11.2
  have b13s := b13.1
  have b13c := b13.2
  go_wp2_with fail
  clear b1s b1c b2s b2c b6s b6c b8s b8c b11s b11c b13s b13c
  refine (u_held_Model r0_x0 _ r0_x1.length _ r0_x2.length _ _ r12_g0_1.sl r12_g0_2.sl (by omega) (by omega)).mono ?_
  rintro e w26 ⟨rfl, hb⟩
  replace p6_r0_1 := p6_r0_1.below hb
  replace p6_r0_2 := p6_r0_2.below hb
  replace r12_g0_1 := r12_g0_1.below hb
  replace r12_g0_2 := r12_g0_2.below hb
  replace b1 := b1.below hb
  replace b2 := b2.below hb
  replace b6 := b6.below hb
  replace b8 := b8.below hb
  replace b11 := b11.below hb
  replace b13 := b13.below hb
  replace A := A.trans (hb.mono A.size)
  have z26 := hb.size
  clear hb
  have b1s := b1.1
  have b1c := b1.2
  have b2s := b2.1
  have b2c := b2.2
  have b6s := b6.1
  have b6c := b6.2
  have b8s := b8.1
  have b8c := b8.2
  have b11s := b11.1
  have b11c := b11.2
  have b13s := b13.1
  have b13c := b13.2
  go_wp2_with fail
  clear b1s b1c b2s b2c b6s b6c b8s b8c b11s b11c b13s b13c
  have cM_0 : w26.cell? ⟨w.heap.size, 0, none⟩ = some (.int .i64 aM_x0) := b1.2 0
  have cM_1 : w26.cell? ⟨w.heap.size, 1, none⟩ = some (.slice vM_1_A aM_x1.length vM_1_c) := b1.2 1
  have cM_2 : w26.cell? ⟨w.heap.size, 2, none⟩ = some (.slice vM_2_A aM_x2.length vM_2_c) := b1.2 2
  have lM := b1.1
  have cF_0 : w26.cell? ⟨w.heap.size + 1, 0, none⟩ = some (.int .i64 aF_x0) := b2.2 0
  have cF_1 : w26.cell? ⟨w.heap.size + 1, 1, none⟩ = some (.slice vF_1_A aF_x1.length vF_1_c) := b2.2 1
  have lF := b2.1
  have hGP : ∀ w w' cs, (fun X cs => ∃ r0_1 r0_2 : Value, cs = #[.int .i64 r0_x0, r0_1, r0_2] ∧ Ow cI 2 w26.heap.size X r0_1 r0_x1 ∧ Ow cI 2 w26.heap.size X r0_2 r0_x2) w cs → (RB (w26.heap.size) 33 (fun X cs => ∃ r0_1 r0_2 : Value, cs = #[.int .i64 r0_x0, r0_1, r0_2] ∧ Ow cI 2 w26.heap.size X r0_1 r0_x1 ∧ Ow cI 2 w26.heap.size X r0_2 r0_x2)) w w' → (fun X cs => ∃ r0_1 r0_2 : Value, cs = #[.int .i64 r0_x0, r0_1, r0_2] ∧ Ow cI 2 w26.heap.size X r0_1 r0_x1 ∧ Ow cI 2 w26.heap.size X r0_2 r0_x2) w' cs := fun _ _ _ ⟨xr0_1, xr0_2, h0, yr0_1, yr0_2⟩ hR => ⟨_, _, h0, yr0_1.rb hR (by decide), yr0_2.rb hR (by decide)⟩
  refine wp_region_relyR (RB.steps hGP) ((RB (w26.heap.size) 33 (fun X cs => ∃ r0_1 r0_2 : Value, cs = #[.int .i64 r0_x0, r0_1, r0_2] ∧ Ow cI 2 w26.heap.size X r0_1 r0_x1 ∧ Ow cI 2 w26.heap.size X r0_2 r0_x2)) w26) [fun _ v _ => v = .agg #[.int .i64 aM_x0, .slice vM_1_A aM_x1.length vM_1_c, .slice vM_2_A aM_x2.length vM_2_c],
    fun _ v X => ∃ u1 u2 : Value, v = .agg #[.int .i64 aM_x0, u1, u2] ∧ Ow cI 2 0 X u1 aM_x1 ∧ Ow cI 2 0 X u2 aM_x2,
    fun _ v _ => v = vA_0,
    fun _ v X => ∃ u0 : Value, v = u0 ∧ Ow cN 70 0 X u0 aA_x0,
    fun _ v _ => v = .agg #[.int .i64 aF_x0, .slice vF_1_A aF_x1.length vF_1_c],
    fun _ v X => ∃ u1 : Value, v = .agg #[.int .i64 aF_x0, u1] ∧ Ow cI 2 0 X u1 aF_x1,
    fun _ v X => ∃ r0_1 r0_2 : Value, v = .tuple #[.agg #[.int .i64 r0_x0, r0_1, r0_2], .int .i64 r1_x0] ∧ Ow cI 2 w26.heap.size X r0_1 r0_x1 ∧ Ow cI 2 w26.heap.size X r0_2 r0_x2,
    fun _ v X => ∃ r0_1 r0_2 : Value, v = .tuple #[.agg #[.int .i64 r0_x0, r0_1, r0_2], .int .i64 r1_x0] ∧ Ow cI 2 w26.heap.size X r0_1 r0_x1 ∧ Ow cI 2 w26.heap.size X r0_2 r0_x2,
    fun _ v X => ∃ r0_1 r0_2 : Value, v = .agg #[.int .i64 r0_x0, r0_1, r0_2] ∧ Ow cI 2 w26.heap.size X r0_1 r0_x1 ∧ Ow cI 2 w26.heap.size X r0_2 r0_x2,
    fun _ v _ => v = .int .i64 r1_x0,
    fun _ v X => ∃ g, v = .pointer (some ⟨g, 0, none⟩) ∧ w26.heap.size ≤ g ∧ ∃ cs : Array Value, cs.size = 3 ∧ Blk X g 33 cs,
    fun q _ X => ∀ g z, q = [.pointer (some ⟨g, 0, none⟩), z] → ∃ cs, (fun X cs => ∃ r0_1 r0_2 : Value, cs = #[.int .i64 r0_x0, r0_1, r0_2] ∧ Ow cI 2 w26.heap.size X r0_1 r0_x1 ∧ Ow cI 2 w26.heap.size X r0_2 r0_x2) X cs ∧ Blk X g 33 cs,
    fun _ v _ => v = .int .i64 r1_x0]
      [] [(some 116, []), (some 117, [(0, some 116)]), (some 118, []), (some 119, [(2, some 118)]), (some 120, []), (some 121, [(4, some 120)]), (some 122, [(1, some 117), (3, some 119), (5, some 121)]), (some 115, [(6, some 122)]), (some 123, [(7, some 115)]), (some 124, [(7, some 115)]), (some 18, []), (none, [(10, some 18), (8, some 123)]), (some 19, [(9, some 124)])] 142 (by kernel_rfl) (by kernel_rfl) rfl (RB.of_below ((Below.refl _ _).drew)) (fun X Y h hb => (RB.steps hGP).trans _ _ _ h hb) ?st27 ?en27
  case st27 =>
    refine stepsR_cons ?_ (stepsR_cons ?_ (stepsR_cons ?_ (stepsR_cons ?_ (stepsR_cons ?_ (stepsR_cons ?_ (stepsR_cons ?_ (stepsR_cons ?_ (stepsR_cons ?_ (stepsR_cons ?_ (stepsR_cons ?_ (stepsR_cons ?_ (stepsR_cons ?_ stepsR_nil))))))))))))
    · intro X hX
      have cM_0' := ((hX.lowBelow (Nat.le_refl _) (Nat.le_refl _)).cell (p := ⟨w.heap.size, 0, none⟩) lM).trans cM_0
      have cM_1' := ((hX.lowBelow (Nat.le_refl _) (Nat.le_refl _)).cell (p := ⟨w.heap.size, 1, none⟩) lM).trans cM_1
      have cM_2' := ((hX.lowBelow (Nat.le_refl _) (Nat.le_refl _)).cell (p := ⟨w.heap.size, 2, none⟩) lM).trans cM_2
      refine stepR_of rfl ?_
      intro K hK
      go_simp
      exact hK _ _ (RB.of_below (Below.refl _ _)) rfl (fun h => absurd rfl h) rfl
    · intro X hX v0 f0
      obtain ⟨q0, X0, hX0, rfl⟩ := f0
      refine stepR_of rfl ?_
      intro K hK
      go_simp
      refine (u_to_Model aM_x0 _ aM_x1 _ aM_x2 _ (hM_1.below (A.trans ((hX.below (Nat.le_refl _)).mono A.size))) (hM_2.below (A.trans ((hX.below (Nat.le_refl _)).mono A.size))) (by omega)).mono ?_
      rintro e X5 ⟨u1, u2, H, rfl, hH1, hH2, o0, o1, hb⟩
      exact hK _ _ (RB.of_below hb) ⟨_, _, rfl, o0.1.mono (Nat.zero_le _), o1.1.mono (Nat.zero_le _)⟩ (fun h => absurd rfl h) rfl
    · intro X hX
      refine stepR_of rfl ?_
      intro K hK
      go_simp
      exact hK _ _ (RB.of_below (Below.refl _ _)) rfl (fun h => absurd rfl h) rfl
    · intro X hX v0 f0
      obtain ⟨q0, X0, hX0, rfl⟩ := f0
      refine stepR_of rfl ?_
      intro K hK
      go_simp
      refine (u_to_SN _ aA_x0 _ (hA_0.below (A.trans ((hX.below (Nat.le_refl _)).mono A.size))) (by omega)).mono ?_
      rintro e X5 ⟨u0, rfl, o0, hb⟩
      exact hK _ _ (RB.of_below hb) ⟨_, rfl, o0.1.mono (Nat.zero_le _)⟩ (fun h => absurd rfl h) rfl
    · intro X hX
      have cF_0' := ((hX.lowBelow (Nat.le_refl _) (Nat.le_refl _)).cell (p := ⟨w.heap.size + 1, 0, none⟩) lF).trans cF_0
      have cF_1' := ((hX.lowBelow (Nat.le_refl _) (Nat.le_refl _)).cell (p := ⟨w.heap.size + 1, 1, none⟩) lF).trans cF_1
      refine stepR_of rfl ?_
      intro K hK
      go_simp
      exact hK _ _ (RB.of_below (Below.refl _ _)) rfl (fun h => absurd rfl h) rfl
    · intro X hX v0 f0
      obtain ⟨q0, X0, hX0, rfl⟩ := f0
      refine stepR_of rfl ?_
      intro K hK
      go_simp
      refine (u_to_Frame aF_x0 _ aF_x1 _ (hF_1.below (A.trans ((hX.below (Nat.le_refl _)).mono A.size))) (by omega)).mono ?_
      rintro e X5 ⟨u1, rfl, o0, hb⟩
      exact hK _ _ (RB.of_below hb) ⟨_, rfl, o0.1.mono (Nat.zero_le _)⟩ (fun h => absurd rfl h) rfl
    · intro X hX v0 f0 v1 f1 v2 f2
      obtain ⟨q0, X0, hX0, p0_0, p0_1, rfl, s0_0, s0_1⟩ := f0
      obtain ⟨q1, X1, hX1, p1_0, rfl, s1_0⟩ := f1
      obtain ⟨q2, X2, hX2, p2_0, rfl, s2_0⟩ := f2
      refine stepR_of rfl ?_
      intro K hK
      go_simp
      refine (HI.out X _ _ _ _ (s0_0.rb hX0 (by decide)).sl (s0_1.rb hX0 (by decide)).sl (s1_0.rb hX1 (by decide)).sl (s2_0.rb hX2 (by decide)).sl).mono ?_
      rintro e X9 ⟨r0_1, r0_2, rfl, or0_1, or0_2, -, hb⟩
      obtain ⟨Ar0_1, cr0_1, rfl⟩ := or0_1.opn
      obtain ⟨Ar0_2, cr0_2, rfl⟩ := or0_2.opn
      exact hK _ _ (RB.of_below hb) ⟨_, _, rfl, or0_1.1.mono hX.size, or0_2.1.mono hX.size⟩ (fun h => absurd rfl h) rfl
    · intro X hX v0 f0
      obtain ⟨q0, X0, hX0, r0_1, r0_2, rfl, or0_1, or0_2⟩ := f0
      obtain ⟨Ar0_1, cr0_1, rfl⟩ := or0_1.opn
      obtain ⟨Ar0_2, cr0_2, rfl⟩ := or0_2.opn
      replace or0_1 := or0_1.rb hX0 (by decide)
      replace or0_2 := or0_2.rb hX0 (by decide)
      refine stepR_of rfl ?_
      intro K hK
      go_simp
      exact hK _ _ (RB.of_below (Below.refl _ _)) ⟨_, _, rfl, or0_1, or0_2⟩ (fun h => absurd rfl h) rfl
    · intro X hX v0 f0
      obtain ⟨q0, X0, hX0, r0_1, r0_2, rfl, or0_1, or0_2⟩ := f0
      obtain ⟨Ar0_1, cr0_1, rfl⟩ := or0_1.opn
      obtain ⟨Ar0_2, cr0_2, rfl⟩ := or0_2.opn
      replace or0_1 := or0_1.rb hX0 (by decide)
      replace or0_2 := or0_2.rb hX0 (by decide)
      refine stepR_of rfl ?_
      intro K hK
      go_simp
      exact hK _ _ (RB.of_below (Below.refl _ _)) ⟨_, _, rfl, or0_1, or0_2⟩ (fun h => absurd rfl h) rfl
    · intro X hX v0 f0
      obtain ⟨q0, X0, hX0, r0_1, r0_2, rfl, or0_1, or0_2⟩ := f0
      obtain ⟨Ar0_1, cr0_1, rfl⟩ := or0_1.opn
      obtain ⟨Ar0_2, cr0_2, rfl⟩ := or0_2.opn
      replace or0_1 := or0_1.rb hX0 (by decide)
      replace or0_2 := or0_2.rb hX0 (by decide)
      refine stepR_of rfl ?_
      intro K hK
      go_simp
      exact hK _ _ (RB.of_below (Below.refl _ _)) rfl (fun h => absurd rfl h) rfl
    · intro X hX
      refine stepR_of rfl ?_
      intro K hK
      go_simp
      exact hK _ _ (RB.of_below (below_alloc' X _)) ⟨X.heap.size, rfl, hX.size, _, rfl, Blk.new X _ _⟩ (fun h => absurd rfl h) rfl
    · intro X hX v0 f0 v1 f1
      obtain ⟨q0, X0, hX0, g, rfl, hg, hbx⟩ := f0
      obtain ⟨q1, X1, hX1, r0_1, r0_2, rfl, or0_1, or0_2⟩ := f1
      obtain ⟨cs, hcs, hk⟩ := hX0.box hbx
      obtain ⟨z0, z1, z2, rfl⟩ := arr3 hcs
      obtain ⟨Ar0_1, cr0_1, rfl⟩ := or0_1.opn
      replace or0_1 := or0_1.rb hX1 (by decide)
      have nr0_1 := hk.ne_own or0_1 (by decide)
      obtain ⟨Ar0_2, cr0_2, rfl⟩ := or0_2.opn
      replace or0_2 := or0_2.rb hX1 (by decide)
      have nr0_2 := hk.ne_own or0_2 (by decide)
      have kc := hk.cell; have kf := hk.frozen; have kl := hk.lt
      refine stepR_of rfl ?_
      intro K hK
      go_simp
      refine hK _ _ (RB.fill hg hk (((hk.set_ 0 _).set_ 1 _).set_ 2 _) rfl ?gp (fun k hkk => (Below.heap_setCell _ _ _ k hkk).trans ((Below.heap_setCell _ _ _ k hkk).trans (Below.heap_setCell _ _ _ k hkk))) (by simp [World.setCell]) rfl rfl rfl) (fun g' z h => ?_) (fun h => absurd rfl h) rfl
      case gp => exact ⟨_, _, rfl, (((or0_1.far nr0_1 _).far nr0_1 _).far nr0_1 _), (((or0_2.far nr0_2 _).far nr0_2 _).far nr0_2 _)⟩
      simp only [List.nil_append, List.cons_append, List.cons.injEq, Value.pointer.injEq, Option.some.injEq, Addr.mk.injEq, and_true, true_and] at h
      obtain ⟨h1, -⟩ := h
      subst h1
      exact ⟨_, ⟨_, _, rfl, (((or0_1.far nr0_1 _).far nr0_1 _).far nr0_1 _), (((or0_2.far nr0_2 _).far nr0_2 _).far nr0_2 _)⟩, (((hk.set_ 0 _).set_ 1 _).set_ 2 _)⟩
    · intro X hX v0 f0
      obtain ⟨q0, X0, hX0, rfl⟩ := f0
      refine stepR_of rfl ?_
      intro K hK
      go_simp
      exact hK _ _ (RB.of_below (Below.refl _ _)) rfl (fun h => absurd rfl h) rfl
  intro w27 hX v0 f0 v1 f1 v2 f2 v3 f3 v4 f4 v5 f5 v6 f6 v7 f7 v8 f8 v9 f9 v10 f10 v11 f11 v12 f12 hsep
  obtain ⟨_, _, g27, rfl, hg27, -⟩ := f10
  obtain ⟨_, hXs, hs⟩ := f11
  obtain ⟨cs, ⟨r0_1, r0_2, rfl, or0_1, or0_2⟩, hk27⟩ := hXs.good hGP (hs _ _ rfl)
  obtain ⟨_, _, rfl⟩ := f9
  obtain ⟨_, _, rfl⟩ := f12
  obtain ⟨Ar0_1_27, cr0_1_27, rfl⟩ := or0_1.opn
  have p27_r0_1 := or0_1.ob
  obtain ⟨Ar0_2_27, cr0_2_27, rfl⟩ := or0_2.opn
  have p27_r0_2 := or0_2.ob
  have b27 : Bk w27 g27 #[.int .i64 r0_x0, .slice Ar0_1_27 r0_x1.length cr0_1_27, .slice Ar0_2_27 r0_x2.length cr0_2_27] := ⟨hk27.lt, hk27.cell⟩
  have hI := hX.below (Nat.le_refl _)
  clear hsep hX hXs hs hGP hk27 or0_1 or0_2 f0 f1 f2 f3 f4 f5 f6 f7 f8
  clear cM_0 cM_1 cM_2 cF_0 cF_1 lM lF
  simp only [List.length_cons, List.length_nil, List.drop_succ_cons, List.drop_zero, List.drop_nil]
  replace p6_r0_1 := p6_r0_1.below hI
  replace p6_r0_2 := p6_r0_2.below hI
  replace r12_g0_1 := r12_g0_1.below hI
  replace r12_g0_2 := r12_g0_2.below hI
  replace b1 := b1.below hI
  replace b2 := b2.below hI
  replace b6 := b6.below hI
  replace b8 := b8.below hI
  replace b11 := b11.below hI
  replace b13 := b13.below hI
  replace A := A.trans (hI.mono A.size)
  have z27 := hI.size
  clear hI
  have g27lt := b27.1
  have b1s := b1.1
  have b1c := b1.2
  have b2s := b2.1
  have b2c := b2.2
  have b6s := b6.1
  have b6c := b6.2
  have b8s := b8.1
  have b8c := b8.2
  have b11s := b11.1
  have b11c := b11.2
  have b13s := b13.1
  have b13c := b13.2
  have b27s := b27.1
  have b27c := b27.2
  go_wp2_with fail
  clear b1s b1c b2s b2c b6s b6c b8s b8c b11s b11c b13s b13c b27s b27c
  refine (u_eq_Model r0_x0 _ _ r0_x1 _ _ r0_x2 _ p27_r0_1.sl p27_r0_2.sl p6_r0_1.sl p6_r0_2.sl (by omega)).mono ?_
  rintro e w28 ⟨rfl, hb⟩
  replace p6_r0_1 := p6_r0_1.below hb
  replace p6_r0_2 := p6_r0_2.below hb
  replace r12_g0_1 := r12_g0_1.below hb
  replace r12_g0_2 := r12_g0_2.below hb
  replace p27_r0_1 := p27_r0_1.below hb
  replace p27_r0_2 := p27_r0_2.below hb
  replace b1 := b1.below hb
  replace b2 := b2.below hb
  replace b6 := b6.below hb
  replace b8 := b8.below hb
  replace b11 := b11.below hb
  replace b13 := b13.below hb
  replace b27 := b27.below hb
  replace A := A.trans (hb.mono A.size)
  have z28 := hb.size
  clear hb
  have b1s := b1.1
  have b1c := b1.2
  have b2s := b2.1
  have b2c := b2.2
  have b6s := b6.1
  have b6c := b6.2
  have b8s := b8.1
  have b8c := b8.2
  have b11s := b11.1
  have b11c := b11.2
  have b13s := b13.1
  have b13c := b13.2
  have b27s := b27.1
  have b27c := b27.2
  go_wp2_with fail
  clear b1s b1c b2s b2c b6s b6c b8s b8c b11s b11c b13s b13c b27s b27c
  refine (u_held_Model r0_x0 _ r0_x1.length _ r0_x2.length _ _ r12_g0_1.sl r12_g0_2.sl (by omega) (by omega)).mono ?_
  rintro e w29 ⟨rfl, hb⟩
  replace p6_r0_1 := p6_r0_1.below hb
  replace p6_r0_2 := p6_r0_2.below hb
  replace r12_g0_1 := r12_g0_1.below hb
  replace r12_g0_2 := r12_g0_2.below hb
  replace p27_r0_1 := p27_r0_1.below hb
  replace p27_r0_2 := p27_r0_2.below hb
  replace b1 := b1.below hb
  replace b2 := b2.below hb
  replace b6 := b6.below hb
  replace b8 := b8.below hb
  replace b11 := b11.below hb
  replace b13 := b13.below hb
  replace b27 := b27.below hb
  replace A := A.trans (hb.mono A.size)
  have z29 := hb.size
  clear hb
  have b1s := b1.1
  have b1c := b1.2
  have b2s := b2.1
  have b2c := b2.2
  have b6s := b6.1
  have b6c := b6.2
  have b8s := b8.1
  have b8c := b8.2
  have b11s := b11.1
  have b11c := b11.2
  have b13s := b13.1
  have b13c := b13.2
  have b27s := b27.1
  have b27c := b27.2
  have BB := Lib.hid A; clear A
  clear p6_r0_1 p6_r0_2 r12_g0_1 r12_g0_2 p27_r0_1 p27_r0_2
  go_wp2
  go_ret
  exact ⟨rfl, BB.out⟩
theorem mod_opn {va vu : Value} {ns us : List Nat} {w : World} (ha : Sl cI w va (li ns)) (hu : Sl cI w vu (li us)) (h6 : us.length = 6) : ∃ A0 c0 A1 c1, va = .slice A0 ns.length c0 ∧ vu = .slice A1 6 c1 := by
  obtain ⟨A0, c0, rfl⟩ := ha.opn
  obtain ⟨A1, c1, rfl⟩ := hu.opn
  exact ⟨A0, c0, A1, c1, by rw [li_length], by rw [li_length, h6]⟩
theorem frm_opn {vg : Value} {gs : List Nat} {w : World} (hg : Sl cI w vg (li gs)) : ∃ A c, vg = .slice A gs.length c := by
  obtain ⟨A, c, rfl⟩ := hg.opn
  exact ⟨A, c, by rw [li_length]⟩
theorem final_FiltrationModel (n : Int) (va : Value) (xs : List Int) (vu : Value) (vs : List Int) (vf : Value) (zs : List Nd) (k : Int) (vg : Value) (gs : List Int) (w : World) (ha : Sl cI w va xs) (hu : Sl cI w vu vs) (hf : Sl cN w vf zs) (hg : Sl cI w vg gs) :
    Calls Tryz.prog 3 #[.agg #[.int .i64 n, va, vu], vf, .agg #[.int .i64 k, vg]] w fun e w' => e = .returned (.bool true) ∧ Below w.heap.size w w' := by
  have z0 : (([] : List Int).length : Nat) ≤ 1048576 := by simp
  have bad : ∀ (c : Int), (∀ W va vu vf vg, Sl cI W va xs → Sl cI W vu vs → Sl cN W vf zs → Sl cI W vg gs → xs.length ≤ 1048576 → vs.length ≤ 1048576 → zs.length ≤ 1048576 → gs.length ≤ 1048576 → Calls Tryz.prog 9 #[.agg #[.int .i64 n, va, vu], vf, .agg #[.int .i64 k, vg]] W fun e w' => e = .returned (.tuple #[.agg #[.int .i64 0, .slice none 0 0, .slice none 0 0], .int .i64 c]) ∧ Below W.heap.size W w') →
      (∀ W va vu vf vg, Sl cI W va xs → Sl cI W vu vs → Sl cN W vf zs → Sl cI W vg gs → xs.length ≤ 1048576 → vs.length ≤ 1048576 → zs.length ≤ 1048576 → gs.length ≤ 1048576 → Calls Tryz.prog 13 #[.agg #[.int .i64 n, va, vu], vf, .agg #[.int .i64 k, vg]] W fun e w' => e = .returned (.tuple #[.agg #[.int .i64 0, .slice none 0 0, .slice none 0 0], .int .i64 c]) ∧ Below W.heap.size W w') →
      Calls Tryz.prog 3 #[.agg #[.int .i64 n, va, vu], vf, .agg #[.int .i64 k, vg]] w fun e w' => e = .returned (.bool true) ∧ Below w.heap.size w w' := fun c hS hI =>
    walk_FiltrationModel n va xs vu vs vf zs k vg gs 0 [] [] c w ha hu hf hg z0 z0
      (Lib.hid fun hh W va vu vf vg ha hu hf hg => (hS W va vu vf vg ha hu hf hg (by omega) (by omega) (by omega) (by omega)).mono fun e w' ⟨he, hb⟩ => ⟨_, _, he, (Ow.nil _ _).ob, (Ow.nil _ _).ob, hb⟩)
      (Lib.hid fun hh W va vu vf vg ha hu hf hg => (hI W va vu vf vg ha hu hf hg (by omega) (by omega) (by omega) (by omega)).mono fun e w' ⟨he, hb⟩ => ⟨_, _, he, (Ow.nil _ _).ob, (Ow.nil _ _).ob, fun k h => (by cases h), hb⟩)
  rcases fcode_cases n xs vs zs with hc | ⟨hc1, hc⟩
  · obtain ⟨⟨ns, us, rfl, rfl, rfl, h1⟩, ⟨f, hok, rfl, hl⟩, hmk, hfk⟩ := fcode_zero hc
    cases hfr : frOk k gs
    · refine bad 1 (fun W va vu vf vg ha hu hf hg _ _ _ h4 => ?_) (fun W va vu vf vg ha hu hf hg q1 q2 q3 q4 => ?_)
      · obtain ⟨A0, c0, A1, c1, rfl, rfl⟩ := mod_opn ha hu h1.l
        exact spec_FiltrationModel_bad2 ns us f A0 A1 c0 c1 vf vg k gs W ⟨ha, hu⟩ h1 hf hok hl hmk hfk hg (by omega) hfr
      · exact impl_FiltrationModel_bad _ k va vu vf vg _ _ gs _ W ha hu hf hg q1 q2 q3 q4 (.inr ⟨hc, hfr⟩)
    · obtain ⟨gn, rfl, rfl, hgr⟩ := frOk_iff hfr
      cases his : isf ns us f gn
      · refine bad 5 (fun W va vu vf vg ha hu hf hg _ _ _ h4 => ?_) (fun W va vu vf vg ha hu hf hg q1 q2 q3 q4 => ?_)
        · obtain ⟨A0, c0, A1, c1, rfl, rfl⟩ := mod_opn ha hu h1.l
          obtain ⟨A4, c4, rfl⟩ := frm_opn hg
          exact spec_FiltrationModel_state ns us gn f A0 A1 A4 c0 c1 c4 vf W ⟨ha, hu⟩ h1 hf hok hl hmk hfk hg hgr hfr his
        · obtain ⟨A0, c0, A1, c1, rfl, rfl⟩ := mod_opn ha hu h1.l
          obtain ⟨A4, c4, rfl⟩ := frm_opn hg
          exact impl_FiltrationModel_state ns us gn f A0 A1 A4 c0 c1 c4 vf W ⟨ha, hu⟩ h1 hf hok hl hmk hfk hg hgr hfr his
      · refine walk_FiltrationModel _ va _ vu _ vf _ _ vg _ (gn.length : Nat) (li gn) (li (fmv ns us f)) 0 w ha hu hf hg (by rw [li_length]; have := hgr.1; omega) (by rw [li_length, fmv, vset_length]; omega) (Lib.hid fun hh W va vu vf vg ha hu hf hg => ?_) (Lib.hid fun hh W va vu vf vg ha hu hf hg => ?_)
        · obtain ⟨A0, c0, A1, c1, rfl, rfl⟩ := mod_opn ha hu h1.l
          obtain ⟨A4, c4, rfl⟩ := frm_opn hg
          exact (spec_FiltrationModel_ok ns us gn f A0 A1 A4 c0 c1 c4 vf W ⟨ha, hu⟩ h1 hf hok hl hmk hfk hg hgr hfr his).mono fun e w' ⟨u1, u2, he, o1, o2, hb⟩ => ⟨u1, u2, he, o1.ob, o2.ob, hb⟩
        · obtain ⟨A0, c0, A1, c1, rfl, rfl⟩ := mod_opn ha hu h1.l
          obtain ⟨A4, c4, rfl⟩ := frm_opn hg
          exact (impl_FiltrationModel_ok ns us gn f A0 A1 A4 c0 c1 c4 vf W ⟨ha, hu⟩ h1 hf hok hl hmk hfk hg hgr hfr his).mono fun e w' ⟨u1, u2, he, o1, o2, dj, hb⟩ => ⟨u1, u2, he, o1.ob, o2.ob, dj, hb⟩
  · exact bad 1 (fun W va vu vf vg ha hu hf hg q1 q2 q3 q4 => spec_FiltrationModel_bad1 n k va vu vf vg xs vs gs zs W ha hu hf hg q1 q2 q3 q4 hc)
      (fun W va vu vf vg ha hu hf hg q1 q2 q3 q4 => impl_FiltrationModel_bad n k va vu vf vg xs vs gs zs W ha hu hf hg q1 q2 q3 q4 (.inl hc1))
end Go.Proofs.YtgdmfihnbbgcoaaGreatDoor

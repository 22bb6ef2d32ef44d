/- The walk of the law FnExactCountFiltrations, written by program: it returns true and writes nothing that was there. -/
import Derived.Test.YtcjplcliggciaaaGreatDoorLB
import Derived.Test.YtcjplcliggciaaaGreatDoorOA
import Derived.Test.YtcjplcliggciaaaGreatDoor14A
namespace Go.Proofs.YtcjplcliggciaaaGreatDoor
open Go.RowKit
set_option linter.unusedVariables false
set_option linter.unusedSimpArgs false
set_option maxHeartbeats 1000000 in
set_option maxRecDepth 100000 in
theorem walk_CountFiltrations (aM_x0 : Int) (vM_1 : Value) (aM_x1 : List Int) (vM_2 : Value) (aM_x2 : List Int) (vA_0 : Value) (aA_x0 : List Nd) (r0_x0 : Int) (r1_x0 : Int) (w : World) (hM_1 : Sl cI w vM_1 aM_x1) (hM_2 : Sl cI w vM_2 aM_x2) (hA_0 : Sl cN w vA_0 aA_x0) 
    (HS : Hid (aM_x1.length + aM_x2.length + aA_x0.length ≤ 1048576 → ∀ (W : World) (vM_1 : Value) (vM_2 : Value) (vA_0 : Value), Sl cI W vM_1 aM_x1 → Sl cI W vM_2 aM_x2 → Sl cN W vA_0 aA_x0 → Calls Tryz.prog 20 #[.agg #[.int .i64 aM_x0, vM_1, vM_2], vA_0] W fun e w' => e = .returned (.tuple #[.int .i64 r0_x0, .int .i64 r1_x0]) ∧ Below W.heap.size W w'))
    (HI : Hid (aM_x1.length + aM_x2.length + aA_x0.length ≤ 1048576 → ∀ (W : World) (vM_1 : Value) (vM_2 : Value) (vA_0 : Value), Sl cI W vM_1 aM_x1 → Sl cI W vM_2 aM_x2 → Sl cN W vA_0 aA_x0 → Calls Tryz.prog 21 #[.agg #[.int .i64 aM_x0, vM_1, vM_2], vA_0] W fun e w' => e = .returned (.tuple #[.int .i64 r0_x0, .int .i64 r1_x0]) ∧ Below W.heap.size W w')) :
    Calls Tryz.prog 4 #[.agg #[.int .i64 aM_x0, vM_1, vM_2], vA_0] w fun e w' => e = .returned (.bool true) ∧ Below w.heap.size w w' := by
  rcases Nat.lt_or_ge 1048576 (aM_x1.length + aM_x2.length) with q0 | q0
  · obtain ⟨vM_1_A, vM_1_c, rfl⟩ := hM_1.opn
    obtain ⟨vM_2_A, vM_2_c, rfl⟩ := hM_2.opn
    have A := Below.refl w.heap.size w
    go_enter Tryz.func4, Tryz.ntmps4
    have hb1 := below_alloc' w (.cells #[.int .i64 aM_x0, .slice vM_1_A aM_x1.length vM_1_c, .slice vM_2_A aM_x2.length vM_2_c] 26)
    have y1 := size_alloc' w (.cells #[.int .i64 aM_x0, .slice vM_1_A aM_x1.length vM_1_c, .slice vM_2_A aM_x2.length vM_2_c] 26)
    replace A := A.trans (hb1.mono A.size)
    have z1 := hb1.size
    have b1 := Bk.new w #[.int .i64 aM_x0, .slice vM_1_A aM_x1.length vM_1_c, .slice vM_2_A aM_x2.length vM_2_c] 26
    clear hb1
    have b1s := b1.1
    have b1c := b1.2
    go_wp2_with fail
    clear b1s b1c
    refine (u_sz_Model aM_x0 _ aM_x1 _ aM_x2 _ _ (hM_1.below A) (hM_2.below A) (by omega)).mono ?_
    rintro e w2 ⟨rfl, hb⟩
    replace b1 := b1.below hb
    replace A := A.trans (hb.mono A.size)
    have z2 := hb.size
    clear hb
    rw [szL_neg (by omega)]
    have b1s := b1.1
    have b1c := b1.2
    have BB := Lib.hid A; clear A
    go_wp2
    go_ret
    exact ⟨rfl, BB.out⟩
  rcases Nat.lt_or_ge 1048576 (aM_x1.length + aM_x2.length + aA_x0.length) with q1 | q1
  · obtain ⟨vM_1_A, vM_1_c, rfl⟩ := hM_1.opn
    obtain ⟨vM_2_A, vM_2_c, rfl⟩ := hM_2.opn
    have A := Below.refl w.heap.size w
    go_enter Tryz.func4, Tryz.ntmps4
    have hb1 := below_alloc' w (.cells #[.int .i64 aM_x0, .slice vM_1_A aM_x1.length vM_1_c, .slice vM_2_A aM_x2.length vM_2_c] 26)
    have y1 := size_alloc' w (.cells #[.int .i64 aM_x0, .slice vM_1_A aM_x1.length vM_1_c, .slice vM_2_A aM_x2.length vM_2_c] 26)
    replace A := A.trans (hb1.mono A.size)
    have z1 := hb1.size
    have b1 := Bk.new w #[.int .i64 aM_x0, .slice vM_1_A aM_x1.length vM_1_c, .slice vM_2_A aM_x2.length vM_2_c] 26
    clear hb1
    have b1s := b1.1
    have b1c := b1.2
    go_wp2_with fail
    clear b1s b1c
    refine (u_sz_Model aM_x0 _ aM_x1 _ aM_x2 _ _ (hM_1.below A) (hM_2.below A) (by omega)).mono ?_
    rintro e w2 ⟨rfl, hb⟩
    replace b1 := b1.below hb
    replace A := A.trans (hb.mono A.size)
    have z2 := hb.size
    clear hb
    rw [szL_pos (by omega)]
    have b1s := b1.1
    have b1c := b1.2
    go_wp2_with fail
    clear b1s b1c
    refine (u_sz_SN _ aA_x0 _ _ (hA_0.below A) (by omega)).mono ?_
    rintro e w3 ⟨rfl, hb⟩
    replace b1 := b1.below hb
    replace A := A.trans (hb.mono A.size)
    have z3 := hb.size
    clear hb
    rw [szL_neg (by omega)]
    have b1s := b1.1
    have b1c := b1.2
    have BB := Lib.hid A; clear A
    go_wp2
    go_ret
    exact ⟨rfl, BB.out⟩
  have HS := Lib.hid (HS.out (by omega))
  have HI := Lib.hid (HI.out (by omega))
  obtain ⟨vM_1_A, vM_1_c, rfl⟩ := hM_1.opn
  obtain ⟨vM_2_A, vM_2_c, rfl⟩ := hM_2.opn
  have A := Below.refl w.heap.size w
  go_enter Tryz.func4, Tryz.ntmps4
  have hb1 := below_alloc' w (.cells #[.int .i64 aM_x0, .slice vM_1_A aM_x1.length vM_1_c, .slice vM_2_A aM_x2.length vM_2_c] 26)
  have y1 := size_alloc' w (.cells #[.int .i64 aM_x0, .slice vM_1_A aM_x1.length vM_1_c, .slice vM_2_A aM_x2.length vM_2_c] 26)
  replace A := A.trans (hb1.mono A.size)
  have z1 := hb1.size
  have b1 := Bk.new w #[.int .i64 aM_x0, .slice vM_1_A aM_x1.length vM_1_c, .slice vM_2_A aM_x2.length vM_2_c] 26
  clear hb1
  have b1s := b1.1
  have b1c := b1.2
  go_wp2_with fail
  clear b1s b1c
  refine (u_sz_Model aM_x0 _ aM_x1 _ aM_x2 _ _ (hM_1.below A) (hM_2.below A) (by omega)).mono ?_
  rintro e w2 ⟨rfl, hb⟩
  replace b1 := b1.below hb
  replace A := A.trans (hb.mono A.size)
  have z2 := hb.size
  clear hb
  rw [szL_pos (by omega)]
  have b1s := b1.1
  have b1c := b1.2
  go_wp2_with fail
  clear b1s b1c
  refine (u_sz_SN _ aA_x0 _ _ (hA_0.below A) (by omega)).mono ?_
  rintro e w3 ⟨rfl, hb⟩
  replace b1 := b1.below hb
  replace A := A.trans (hb.mono A.size)
  have z3 := hb.size
  clear hb
  rw [szL_pos (by omega)]
  have b1s := b1.1
  have b1c := b1.2
  go_wp2_with fail
  clear b1s b1c
  refine (u_to_Model aM_x0 _ aM_x1 _ aM_x2 _ (hM_1.below A) (hM_2.below A) (by omega)).mono ?_
  rintro e w4 ⟨tM_v1, tM_v2, H4_, rfl, hH4_a, hH4_b, o4_1, o4_2, hb⟩
  replace b1 := b1.below hb
  replace A := A.trans (hb.mono A.size)
  have z4 := hb.size
  clear hb
  obtain ⟨tM_v1_A, tM_v1_c, rfl⟩ := o4_1.opn
  obtain ⟨tM_v2_A, tM_v2_c, rfl⟩ := o4_2.opn
  have b1s := b1.1
  have b1c := b1.2
  go_wp2_with fail
  clear b1s b1c
  refine (u_to_SN _ aA_x0 _ (hA_0.below A) (by omega)).mono ?_
  rintro e w5 ⟨tA_v0, rfl, o5_0, hb⟩
  replace o4_1 := o4_1.below hb
  replace o4_2 := o4_2.below hb
  replace b1 := b1.below hb
  replace A := A.trans (hb.mono A.size)
  have z5 := hb.size
  clear hb
  have b1s := b1.1
  have b1c := b1.2
  go_wp2_with fail
  clear b1s b1c
  refine (HS.out _ _ _ _ o4_1.sl o4_2.sl o5_0.sl).mono ?_
  rintro e w6 ⟨rfl, hb⟩
  replace o4_1 := o4_1.below hb
  replace o4_2 := o4_2.below hb
  replace o5_0 := o5_0.below hb
  replace b1 := b1.below hb
  replace A := A.trans (hb.mono A.size)
  have z6 := hb.size
  clear hb
  clear o4_1
  clear o4_2
  clear o5_0
  have b1s := b1.1
  have b1c := b1.2
  go_wp2_with fail
  clear b1s b1c
  refine (u_to_Model aM_x0 _ aM_x1 _ aM_x2 _ (hM_1.below A) (hM_2.below A) (by omega)).mono ?_
  rintro e w7 ⟨xM_v1, xM_v2, H7_, rfl, hH7_a, hH7_b, o7_1, o7_2, hb⟩
  replace b1 := b1.below hb
  replace A := A.trans (hb.mono A.size)
  have z7 := hb.size
  clear hb
  obtain ⟨xM_v1_A, xM_v1_c, rfl⟩ := o7_1.opn
  obtain ⟨xM_v2_A, xM_v2_c, rfl⟩ := o7_2.opn
  have hb8 := below_alloc' w7 (.cells #[.int .i64 aM_x0, .slice xM_v1_A aM_x1.length xM_v1_c, .slice xM_v2_A aM_x2.length xM_v2_c] 35)
  have y8 := size_alloc' w7 (.cells #[.int .i64 aM_x0, .slice xM_v1_A aM_x1.length xM_v1_c, .slice xM_v2_A aM_x2.length xM_v2_c] 35)
  replace o7_1 := o7_1.below hb8
  replace o7_2 := o7_2.below hb8
  replace b1 := b1.below hb8
  replace A := A.trans (hb8.mono A.size)
  have z8 := hb8.size
  have b8 := Bk.new w7 #[.int .i64 aM_x0, .slice xM_v1_A aM_x1.length xM_v1_c, .slice xM_v2_A aM_x2.length xM_v2_c] 35
  clear hb8
  have b1s := b1.1
  have b1c := b1.2
  have b8s := b8.1
  have b8c := b8.2
  go_wp2_with fail
  clear b1s b1c b8s b8c
  refine (u_to_SN _ aA_x0 _ (hA_0.below A) (by omega)).mono ?_
  rintro e w9 ⟨xA_v0, rfl, o9_0, hb⟩
  replace o7_1 := o7_1.below hb
  replace o7_2 := o7_2.below hb
  replace b1 := b1.below hb
  replace b8 := b8.below hb
  replace A := A.trans (hb.mono A.size)
  have z9 := hb.size
  clear hb
  have b1s := b1.1
  have b1c := b1.2
  have b8s := b8.1
  have b8c := b8.2
  go_wp2_with fail
  clear b1s b1c b8s b8c
  refine (HI.out _ _ _ _ o7_1.sl o7_2.sl o9_0.sl).mono ?_
  rintro e w10 ⟨rfl, hb⟩
  replace o7_1 := o7_1.below hb
  replace o7_2 := o7_2.below hb
  replace o9_0 := o9_0.below hb
  replace b1 := b1.below hb
  replace b8 := b8.below hb
  replace A := A.trans (hb.mono A.size)
  have z10 := hb.size
  clear hb
  have b1s := b1.1
  have b1c := b1.2
  have b8s := b8.1
  have b8c := b8.2
  go_wp2_with fail
  clear b1s b1c b8s b8c
  have hq12_1 := hM_1.below A
  have hq12_2 := hM_2.below A
  have c0 : w10.cell? ⟨w7.heap.size, 0, none⟩ = some (.int .i64 aM_x0) := b8.2 0
  have c1 : w10.cell? ⟨w7.heap.size, 1, none⟩ = some (.slice xM_v1_A aM_x1.length xM_v1_c) := b8.2 1
  have c2 : w10.cell? ⟨w7.heap.size, 2, none⟩ = some (.slice xM_v2_A aM_x2.length xM_v2_c) := b8.2 2
  have d0 : w10.cell? ⟨w.heap.size, 0, none⟩ = some (.int .i64 aM_x0) := b1.2 0
  have d1 : w10.cell? ⟨w.heap.size, 1, none⟩ = some (.slice vM_1_A aM_x1.length vM_1_c) := b1.2 1
  have d2 : w10.cell? ⟨w.heap.size, 2, none⟩ = some (.slice vM_2_A aM_x2.length vM_2_c) := b1.2 2
  go_region_held3 (fun w' => w'.cell? ⟨w7.heap.size, 0, none⟩ = some (.int .i64 aM_x0) ∧ w'.cell? ⟨w7.heap.size, 1, none⟩ = some (.slice xM_v1_A aM_x1.length xM_v1_c) ∧ w'.cell? ⟨w7.heap.size, 2, none⟩ = some (.slice xM_v2_A aM_x2.length xM_v2_c) ∧ w'.cell? ⟨w.heap.size, 0, none⟩ = some (.int .i64 aM_x0) ∧ w'.cell? ⟨w.heap.size, 1, none⟩ = some (.slice vM_1_A aM_x1.length vM_1_c) ∧ w'.cell? ⟨w.heap.size, 2, none⟩ = some (.slice vM_2_A aM_x2.length vM_2_c)) (first | exact ⟨c0'', c1'', c2'', d0'', d1'', d2''⟩ | exact ⟨c0', c1', c2', d0', d1', d2'⟩ | exact ⟨c0, c1, c2, d0, d1, d2⟩ | (simp [*]; done)) (first | (go_at_call 13; refine (u_to_Model aM_x0 _ aM_x1 _ aM_x2 _ (hq12_1.below (below_drewN (Below.refl _ _) 1)) (hq12_2.below (below_drewN (Below.refl _ _) 1)) (by omega)).mono ?_; rintro e w11 ⟨y12_1, y12_2, Hy12_, rfl, hHy12_a, hHy12_b, oy12_1, oy12_2, hbP⟩; obtain ⟨y12_1_A, y12_1_c, rfl⟩ := oy12_1.opn; obtain ⟨y12_2_A, y12_2_c, rfl⟩ := oy12_2.opn; have hbP1 : Below w10.heap.size w10 w11 := (below_drewN (Below.refl _ _) 1).trans hbP; have c0' := (hbP1.cell (p := ⟨w7.heap.size, 0, none⟩) b8.1).trans c0; have c1' := (hbP1.cell (p := ⟨w7.heap.size, 1, none⟩) b8.1).trans c1; have c2' := (hbP1.cell (p := ⟨w7.heap.size, 2, none⟩) b8.1).trans c2; have d0' := (hbP1.cell (p := ⟨w.heap.size, 0, none⟩) b1.1).trans d0; have d1' := (hbP1.cell (p := ⟨w.heap.size, 1, none⟩) b1.1).trans d1; have d2' := (hbP1.cell (p := ⟨w.heap.size, 2, none⟩) b1.1).trans d2) | (go_at_call 17; refine (u_eq_Model aM_x0 _ _ aM_x1 _ _ aM_x2 _ (o7_1.below hbP1).sl (o7_2.below hbP1).sl oy12_1.sl oy12_2.sl (by omega)).mono ?_; rintro e w12 ⟨rfl, hbQ⟩; have c0'' := (hbQ.cell (p := ⟨w7.heap.size, 0, none⟩) (b8.below hbP1).1).trans c0'; have c1'' := (hbQ.cell (p := ⟨w7.heap.size, 1, none⟩) (b8.below hbP1).1).trans c1'; have c2'' := (hbQ.cell (p := ⟨w7.heap.size, 2, none⟩) (b8.below hbP1).1).trans c2'; have d0'' := (hbQ.cell (p := ⟨w.heap.size, 0, none⟩) (b1.below hbP1).1).trans d0'; have d1'' := (hbQ.cell (p := ⟨w.heap.size, 1, none⟩) (b1.below hbP1).1).trans d1'; have d2'' := (hbQ.cell (p := ⟨w.heap.size, 2, none⟩) (b1.below hbP1).1).trans d2'))
  have hb := bthen hbP1 hbQ
  clear c0'' c0' c0 c1'' c1' c1 c2'' c2' c2 d0'' d0' d0 d1'' d1' d1 d2'' d2' d2
  clear hbP hbQ hbP1 oy12_1 oy12_2
  clear hq12_1
  clear hq12_2
  replace o7_1 := o7_1.below hb
  replace o7_2 := o7_2.below hb
  replace o9_0 := o9_0.below hb
  replace b1 := b1.below hb
  replace b8 := b8.below hb
  replace A := A.trans (hb.mono A.size)
  have z12 := hb.size
  clear hb
  have b1s := b1.1
  have b1c := b1.2
  have b8s := b8.1
  have b8c := b8.2
  go_wp2_with fail
  clear b1s b1c b8s b8c
  refine (u_to_SN _ aA_x0 _ (hA_0.below A) (by omega)).mono ?_
  rintro e w13 ⟨yA_v0, rfl, o13_0, hb⟩
  replace o7_1 := o7_1.below hb
  replace o7_2 := o7_2.below hb
  replace o9_0 := o9_0.below hb
  replace b1 := b1.below hb
  replace b8 := b8.below hb
  replace A := A.trans (hb.mono A.size)
  have z13 := hb.size
  clear hb
  have b1s := b1.1
  have b1c := b1.2
  have b8s := b8.1
  have b8c := b8.2
  go_wp2_with fail
  clear b1s b1c b8s b8c
  refine (u_eq_SN _ _ aA_x0 _ o9_0.sl o13_0.sl (by omega)).mono ?_
  rintro e w14 ⟨rfl, hb⟩
  replace o7_1 := o7_1.below hb
  replace o7_2 := o7_2.below hb
  replace o9_0 := o9_0.below hb
  replace o13_0 := o13_0.below hb
  replace b1 := b1.below hb
  replace b8 := b8.below hb
  replace A := A.trans (hb.mono A.size)
  have z14 := hb.size
  clear hb
  clear o13_0
  have b1s := b1.1
  have b1c := b1.2
  have b8s := b8.1
  have b8c := b8.2
  have BB := Lib.hid A; clear A
  clear o7_1 o7_2 o9_0
  go_wp2
  go_ret
  exact ⟨rfl, BB.out⟩
theorem mod_opn {va vu : Value} {ns us : List Nat} {w : World} (ha : Sl cI w va (li ns)) (hu : Sl cI w vu (li us)) (h6 : us.length = 6) : ∃ A0 c0 A1 c1, va = .slice A0 ns.length c0 ∧ vu = .slice A1 6 c1 := by
  obtain ⟨A0, c0, rfl⟩ := ha.opn
  obtain ⟨A1, c1, rfl⟩ := hu.opn
  exact ⟨A0, c0, A1, c1, by rw [li_length], by rw [li_length, h6]⟩
theorem final_CountFiltrations (n : Int) (va : Value) (xs : List Int) (vu : Value) (vs : List Int) (vf : Value) (zs : List Nd) (w : World) (ha : Sl cI w va xs) (hu : Sl cI w vu vs) (hf : Sl cN w vf zs) :
    Calls Tryz.prog 4 #[.agg #[.int .i64 n, va, vu], vf] w fun e w' => e = .returned (.bool true) ∧ Below w.heap.size w w' := by
  rcases fcode_cases n xs vs zs with hc | ⟨-, hc⟩
  · obtain ⟨⟨ns, us, rfl, rfl, rfl, h1⟩, ⟨f, hok, rfl, hl⟩, hmk, hfk⟩ := fcode_zero hc
    have h8 := h1.r.1
    refine walk_CountFiltrations _ va _ vu _ vf _ (cfN (chc ns us f)) (cfC (chc ns us f)) w ha hu hf (Lib.hid fun _ W va vu vf ha hu hf => ?_) (Lib.hid fun _ W va vu vf ha hu hf => ?_)
    · obtain ⟨A0, c0, A1, c1, rfl, rfl⟩ := mod_opn ha hu h1.l
      exact spec_CountFiltrations_ok ns us f A0 A1 c0 c1 vf W ⟨ha, hu⟩ h1 hf hok hl hmk hfk
    · obtain ⟨A0, c0, A1, c1, rfl, rfl⟩ := mod_opn ha hu h1.l
      exact impl_CountFiltrations_ok ns us f A0 A1 c0 c1 vf W ⟨ha, hu⟩ h1 hf hok hl hmk hfk
  · exact walk_CountFiltrations n va xs vu vs vf zs 0 1 w ha hu hf
      (Lib.hid fun h1 W va vu vf ha hu hf => spec_CountFiltrations_bad n va vu vf xs vs zs W ha hu hf (by omega) (by omega) (by omega) hc)
      (Lib.hid fun h1 W va vu vf ha hu hf => impl_CountFiltrations_bad n va vu vf xs vs zs W ha hu hf (by omega) (by omega) (by omega) hc)
end Go.Proofs.YtcjplcliggciaaaGreatDoor

/- The walk of the law FnExactSolveOnFrame, written by program: it returns true and writes nothing that was there. -/
import Derived.Test.YtbejakkcdbhmaaaLUs
import Derived.Test.YtbejakkcdbhmaaaLG
import Derived.Test.Ytbejakkcdbhmaaa33z
namespace Go.Proofs.Ytbejakkcdbhmaaa
open Go.RowKit
set_option linter.unusedVariables false
set_option linter.unusedSimpArgs false
theorem walk_SolveOnFrame (aF_x0 : Int) (vF_1 : Value) (aF_x1 : List Int) (vA_0 : Value) (aA_x0 : List Nd) (aV_x0 : Int) (vValues_0 : Value) (aValues_x0 : List Int) (r0_x0 : Int) (r1_x0 : Int) (w : World) (hF_1 : Sl cI w vF_1 aF_x1) (hA_0 : Sl cN w vA_0 aA_x0) (hValues_0 : Sl cI w vValues_0 aValues_x0) 
    (HS : Hid (aValues_x0.length ≤ 1048576 → aF_x1.length + aA_x0.length ≤ 1048576 → ∀ (W : World) (vF_1 : Value) (vA_0 : Value) (vValues_0 : Value), Sl cI W vF_1 aF_x1 → Sl cN W vA_0 aA_x0 → Sl cI W vValues_0 aValues_x0 → Calls Try.prog 55 #[.agg #[.int .i64 aF_x0, vF_1], vA_0, .int .i64 aV_x0, vValues_0] W fun e w' => e = .returned (.tuple #[.int .i64 r0_x0, .int .i64 r1_x0]) ∧ Below W.heap.size W w'))
    (HI : Hid (aValues_x0.length ≤ 1048576 → aF_x1.length + aA_x0.length ≤ 1048576 → ∀ (W : World) (vF_1 : Value) (vA_0 : Value) (vValues_0 : Value), Sl cI W vF_1 aF_x1 → Sl cN W vA_0 aA_x0 → Sl cI W vValues_0 aValues_x0 → Calls Try.prog 56 #[.agg #[.int .i64 aF_x0, vF_1], vA_0, .int .i64 aV_x0, vValues_0] W fun e w' => e = .returned (.tuple #[.int .i64 r0_x0, .int .i64 r1_x0]) ∧ Below W.heap.size W w')) :
    Calls Try.prog 12 #[.agg #[.int .i64 aF_x0, vF_1], vA_0, .int .i64 aV_x0, vValues_0] w fun e w' => e = .returned (.bool true) ∧ Below w.heap.size w w' := by
  rcases Nat.lt_or_ge 1048576 (aValues_x0.length) with ql0 | ql0
  · obtain ⟨vF_1_A, vF_1_c, rfl⟩ := hF_1.opn
    obtain ⟨vValues_0_A, vValues_0_c, rfl⟩ := hValues_0.opn
    have ql0 : decide ((1048576 : Int) < (aValues_x0.length : Int)) = true := decide_eq_true (by omega)
    have A := Below.refl w.heap.size w
    go_enter Try.func12, Try.ntmps12
    have hb1 := below_alloc' w (.cells #[.int .i64 aF_x0, .slice vF_1_A aF_x1.length vF_1_c] 33)
    have y1 := size_alloc' w (.cells #[.int .i64 aF_x0, .slice vF_1_A aF_x1.length vF_1_c] 33)
    replace A := A.trans (hb1.mono A.size)
    have z1 := hb1.size
    have b1 := Bk.new w #[.int .i64 aF_x0, .slice vF_1_A aF_x1.length vF_1_c] 33
    clear hb1
    have b1s := b1.1
    have b1c := b1.2
    have BB := Lib.hid A; clear A
    go_wp2
    go_ret
    exact ⟨rfl, BB.out⟩
  rcases Nat.lt_or_ge 1048576 (aF_x1.length) with q0 | q0
  · obtain ⟨vF_1_A, vF_1_c, rfl⟩ := hF_1.opn
    obtain ⟨vValues_0_A, vValues_0_c, rfl⟩ := hValues_0.opn
    have ql0 : decide ((1048576 : Int) < (aValues_x0.length : Int)) = false := decide_eq_false (by omega)
    have A := Below.refl w.heap.size w
    go_enter Try.func12, Try.ntmps12
    have hb1 := below_alloc' w (.cells #[.int .i64 aF_x0, .slice vF_1_A aF_x1.length vF_1_c] 33)
    have y1 := size_alloc' w (.cells #[.int .i64 aF_x0, .slice vF_1_A aF_x1.length vF_1_c] 33)
    replace A := A.trans (hb1.mono A.size)
    have z1 := hb1.size
    have b1 := Bk.new w #[.int .i64 aF_x0, .slice vF_1_A aF_x1.length vF_1_c] 33
    clear hb1
    have b1s := b1.1
    have b1c := b1.2
    go_wp2_with fail
    clear b1s b1c
    refine (u_sz_Frame aF_x0 _ aF_x1 _ _ (hF_1.below A) (by omega)).mono ?_
    rintro e w2 ⟨rfl, hb⟩
    replace b1 := b1.below hb
    replace A := A.trans (hb.mono A.size)
    have z2 := hb.size
    clear hb
    rw [szL_neg (by omega)]
    have b1s := b1.1
    have b1c := b1.2
    have BB := Lib.hid A; clear A
    go_wp2
    go_ret
    exact ⟨rfl, BB.out⟩
  rcases Nat.lt_or_ge 1048576 (aF_x1.length + aA_x0.length) with q1 | q1
  · obtain ⟨vF_1_A, vF_1_c, rfl⟩ := hF_1.opn
    obtain ⟨vValues_0_A, vValues_0_c, rfl⟩ := hValues_0.opn
    have ql0 : decide ((1048576 : Int) < (aValues_x0.length : Int)) = false := decide_eq_false (by omega)
    have A := Below.refl w.heap.size w
    go_enter Try.func12, Try.ntmps12
    have hb1 := below_alloc' w (.cells #[.int .i64 aF_x0, .slice vF_1_A aF_x1.length vF_1_c] 33)
    have y1 := size_alloc' w (.cells #[.int .i64 aF_x0, .slice vF_1_A aF_x1.length vF_1_c] 33)
    replace A := A.trans (hb1.mono A.size)
    have z1 := hb1.size
    have b1 := Bk.new w #[.int .i64 aF_x0, .slice vF_1_A aF_x1.length vF_1_c] 33
    clear hb1
    have b1s := b1.1
    have b1c := b1.2
    go_wp2_with fail
    clear b1s b1c
    refine (u_sz_Frame aF_x0 _ aF_x1 _ _ (hF_1.below A) (by omega)).mono ?_
    rintro e w2 ⟨rfl, hb⟩
    replace b1 := b1.below hb
    replace A := A.trans (hb.mono A.size)
    have z2 := hb.size
    clear hb
    rw [szL_pos (by omega)]
    have b1s := b1.1
    have b1c := b1.2
    go_wp2_with fail
    clear b1s b1c
    refine (u_sz_SN _ aA_x0 _ _ (hA_0.below A) (by omega)).mono ?_
    rintro e w3 ⟨rfl, hb⟩
    replace b1 := b1.below hb
    replace A := A.trans (hb.mono A.size)
    have z3 := hb.size
    clear hb
    rw [szL_neg (by omega)]
    have b1s := b1.1
    have b1c := b1.2
    have BB := Lib.hid A; clear A
    go_wp2
    go_ret
    exact ⟨rfl, BB.out⟩
  have HS := Lib.hid (HS.out (by omega) (by omega))
  have HI := Lib.hid (HI.out (by omega) (by omega))
  obtain ⟨vF_1_A, vF_1_c, rfl⟩ := hF_1.opn
  obtain ⟨vValues_0_A, vValues_0_c, rfl⟩ := hValues_0.opn
  have ql0 : decide ((1048576 : Int) < (aValues_x0.length : Int)) = false := decide_eq_false (by omega)
  have A := Below.refl w.heap.size w
  go_enter Try.func12, Try.ntmps12
  have hb1 := below_alloc' w (.cells #[.int .i64 aF_x0, .slice vF_1_A aF_x1.length vF_1_c] 33)
  have y1 := size_alloc' w (.cells #[.int .i64 aF_x0, .slice vF_1_A aF_x1.length vF_1_c] 33)
  replace A := A.trans (hb1.mono A.size)
  have z1 := hb1.size
  have b1 := Bk.new w #[.int .i64 aF_x0, .slice vF_1_A aF_x1.length vF_1_c] 33
  clear hb1
  have b1s := b1.1
  have b1c := b1.2
  go_wp2_with fail
  clear b1s b1c
  refine (u_sz_Frame aF_x0 _ aF_x1 _ _ (hF_1.below A) (by omega)).mono ?_
  rintro e w2 ⟨rfl, hb⟩
  replace b1 := b1.below hb
  replace A := A.trans (hb.mono A.size)
  have z2 := hb.size
  clear hb
  rw [szL_pos (by omega)]
  have b1s := b1.1
  have b1c := b1.2
  go_wp2_with fail
  clear b1s b1c
  refine (u_sz_SN _ aA_x0 _ _ (hA_0.below A) (by omega)).mono ?_
  rintro e w3 ⟨rfl, hb⟩
  replace b1 := b1.below hb
  replace A := A.trans (hb.mono A.size)
  have z3 := hb.size
  clear hb
  rw [szL_pos (by omega)]
  have b1s := b1.1
  have b1c := b1.2
  go_wp2_with fail
  clear b1s b1c
  refine (u_to_Frame aF_x0 _ aF_x1 _ (hF_1.below A) (by omega)).mono ?_
  rintro e w4 ⟨tF_v1, rfl, o4_1, hb⟩
  replace b1 := b1.below hb
  replace A := A.trans (hb.mono A.size)
  have z4 := hb.size
  clear hb
  obtain ⟨tF_v1_A, tF_v1_c, rfl⟩ := o4_1.opn
  have b1s := b1.1
  have b1c := b1.2
  go_wp2_with fail
  clear b1s b1c
  refine (u_to_SN _ aA_x0 _ (hA_0.below A) (by omega)).mono ?_
  rintro e w5 ⟨tA_v0, rfl, o5_0, hb⟩
  replace o4_1 := o4_1.below hb
  replace b1 := b1.below hb
  replace A := A.trans (hb.mono A.size)
  have z5 := hb.size
  clear hb
  have b1s := b1.1
  have b1c := b1.2
  go_wp2_with fail
  clear b1s b1c
  refine (u_to_SI _ aValues_x0 _ (hValues_0.below A) (by omega)).mono ?_
  rintro e w6 ⟨tValues_v0, rfl, o6_0, hb⟩
  replace o4_1 := o4_1.below hb
  replace o5_0 := o5_0.below hb
  replace b1 := b1.below hb
  replace A := A.trans (hb.mono A.size)
  have z6 := hb.size
  clear hb
  have b1s := b1.1
  have b1c := b1.2
  go_wp2_with fail
  clear b1s b1c
  refine (HS.out _ _ _ _ o4_1.sl o5_0.sl o6_0.sl).mono ?_
  rintro e w7 ⟨rfl, hb⟩
  replace o4_1 := o4_1.below hb
  replace o5_0 := o5_0.below hb
  replace o6_0 := o6_0.below hb
  replace b1 := b1.below hb
  replace A := A.trans (hb.mono A.size)
  have z7 := hb.size
  clear hb
  clear o4_1
  clear o5_0
  clear o6_0
  have b1s := b1.1
  have b1c := b1.2
  go_wp2_with fail
  clear b1s b1c
  refine (u_to_Frame aF_x0 _ aF_x1 _ (hF_1.below A) (by omega)).mono ?_
  rintro e w8 ⟨xF_v1, rfl, o8_1, hb⟩
  replace b1 := b1.below hb
  replace A := A.trans (hb.mono A.size)
  have z8 := hb.size
  clear hb
  obtain ⟨xF_v1_A, xF_v1_c, rfl⟩ := o8_1.opn
  have hb9 := below_alloc' w8 (.cells #[.int .i64 aF_x0, .slice xF_v1_A aF_x1.length xF_v1_c] 37)
  have y9 := size_alloc' w8 (.cells #[.int .i64 aF_x0, .slice xF_v1_A aF_x1.length xF_v1_c] 37)
  replace o8_1 := o8_1.below hb9
  replace b1 := b1.below hb9
  replace A := A.trans (hb9.mono A.size)
  have z9 := hb9.size
  have b9 := Bk.new w8 #[.int .i64 aF_x0, .slice xF_v1_A aF_x1.length xF_v1_c] 37
  clear hb9
  have b1s := b1.1
  have b1c := b1.2
  have b9s := b9.1
  have b9c := b9.2
  go_wp2_with fail
  clear b1s b1c b9s b9c
  refine (u_to_SN _ aA_x0 _ (hA_0.below A) (by omega)).mono ?_
  rintro e w10 ⟨xA_v0, rfl, o10_0, hb⟩
  replace o8_1 := o8_1.below hb
  replace b1 := b1.below hb
  replace b9 := b9.below hb
  replace A := A.trans (hb.mono A.size)
  have z10 := hb.size
  clear hb
  have b1s := b1.1
  have b1c := b1.2
  have b9s := b9.1
  have b9c := b9.2
  go_wp2_with fail
  clear b1s b1c b9s b9c
  refine (u_to_SI _ aValues_x0 _ (hValues_0.below A) (by omega)).mono ?_
  rintro e w11 ⟨xValues_v0, rfl, o11_0, hb⟩
  replace o8_1 := o8_1.below hb
  replace o10_0 := o10_0.below hb
  replace b1 := b1.below hb
  replace b9 := b9.below hb
  replace A := A.trans (hb.mono A.size)
  have z11 := hb.size
  clear hb
  have b1s := b1.1
  have b1c := b1.2
  have b9s := b9.1
  have b9c := b9.2
  go_wp2_with fail
  clear b1s b1c b9s b9c
  refine (HI.out _ _ _ _ o8_1.sl o10_0.sl o11_0.sl).mono ?_
  rintro e w12 ⟨rfl, hb⟩
  replace o8_1 := o8_1.below hb
  replace o10_0 := o10_0.below hb
  replace o11_0 := o11_0.below hb
  replace b1 := b1.below hb
  replace b9 := b9.below hb
  replace A := A.trans (hb.mono A.size)
  have z12 := hb.size
  clear hb
  have b1s := b1.1
  have b1c := b1.2
  have b9s := b9.1
  have b9c := b9.2
  go_wp2_with fail
  clear b1s b1c b9s b9c
  have hq14_1 := hF_1.below A
  have c0 : w12.cell? ⟨w8.heap.size, 0, none⟩ = some (.int .i64 aF_x0) := b9.2 0
  have c1 : w12.cell? ⟨w8.heap.size, 1, none⟩ = some (.slice xF_v1_A aF_x1.length xF_v1_c) := b9.2 1
  have d0 : w12.cell? ⟨w.heap.size, 0, none⟩ = some (.int .i64 aF_x0) := b1.2 0
  have d1 : w12.cell? ⟨w.heap.size, 1, none⟩ = some (.slice vF_1_A aF_x1.length vF_1_c) := b1.2 1
  go_region_held3 (fun w' => w'.cell? ⟨w8.heap.size, 0, none⟩ = some (.int .i64 aF_x0) ∧ w'.cell? ⟨w8.heap.size, 1, none⟩ = some (.slice xF_v1_A aF_x1.length xF_v1_c) ∧ w'.cell? ⟨w.heap.size, 0, none⟩ = some (.int .i64 aF_x0) ∧ w'.cell? ⟨w.heap.size, 1, none⟩ = some (.slice vF_1_A aF_x1.length vF_1_c)) (first | exact ⟨c0'', c1'', d0'', d1''⟩ | exact ⟨c0', c1', d0', d1'⟩ | exact ⟨c0, c1, d0, d1⟩ | (simp [*]; done)) (first | (go_at_call 24; refine (u_to_Frame aF_x0 _ aF_x1 _ (hq14_1.below (below_drewN (Below.refl _ _) 1)) (by omega)).mono ?_; rintro e w13 ⟨y14_1, rfl, oy14_1, hbP⟩; obtain ⟨y14_1_A, y14_1_c, rfl⟩ := oy14_1.opn; have hbP1 : Below w12.heap.size w12 w13 := (below_drewN (Below.refl _ _) 1).trans hbP; have c0' := (hbP1.cell (p := ⟨w8.heap.size, 0, none⟩) b9.1).trans c0; have c1' := (hbP1.cell (p := ⟨w8.heap.size, 1, none⟩) b9.1).trans c1; have d0' := (hbP1.cell (p := ⟨w.heap.size, 0, none⟩) b1.1).trans d0; have d1' := (hbP1.cell (p := ⟨w.heap.size, 1, none⟩) b1.1).trans d1) | (go_at_call 27; refine (u_eq_Frame aF_x0 _ _ aF_x1 _ (o8_1.below hbP1).sl oy14_1.sl (by omega)).mono ?_; rintro e w14 ⟨rfl, hbQ⟩; have c0'' := (hbQ.cell (p := ⟨w8.heap.size, 0, none⟩) (b9.below hbP1).1).trans c0'; have c1'' := (hbQ.cell (p := ⟨w8.heap.size, 1, none⟩) (b9.below hbP1).1).trans c1'; have d0'' := (hbQ.cell (p := ⟨w.heap.size, 0, none⟩) (b1.below hbP1).1).trans d0'; have d1'' := (hbQ.cell (p := ⟨w.heap.size, 1, none⟩) (b1.below hbP1).1).trans d1'))
  have hb := bthen hbP1 hbQ
  clear c0'' c0' c0 c1'' c1' c1 d0'' d0' d0 d1'' d1' d1
  clear hbP hbQ hbP1 oy14_1
  clear hq14_1
  replace o8_1 := o8_1.below hb
  replace o10_0 := o10_0.below hb
  replace o11_0 := o11_0.below hb
  replace b1 := b1.below hb
  replace b9 := b9.below hb
  replace A := A.trans (hb.mono A.size)
  have z14 := hb.size
  clear hb
  have b1s := b1.1
  have b1c := b1.2
  have b9s := b9.1
  have b9c := b9.2
  go_wp2_with fail
  clear b1s b1c b9s b9c
  refine (u_to_SN _ aA_x0 _ (hA_0.below A) (by omega)).mono ?_
  rintro e w15 ⟨yA_v0, rfl, o15_0, hb⟩
  replace o8_1 := o8_1.below hb
  replace o10_0 := o10_0.below hb
  replace o11_0 := o11_0.below hb
  replace b1 := b1.below hb
  replace b9 := b9.below hb
  replace A := A.trans (hb.mono A.size)
  have z15 := hb.size
  clear hb
  have b1s := b1.1
  have b1c := b1.2
  have b9s := b9.1
  have b9c := b9.2
  go_wp2_with fail
  clear b1s b1c b9s b9c
  refine (u_eq_SN _ _ aA_x0 _ o10_0.sl o15_0.sl (by omega)).mono ?_
  rintro e w16 ⟨rfl, hb⟩
  replace o8_1 := o8_1.below hb
  replace o10_0 := o10_0.below hb
  replace o11_0 := o11_0.below hb
  replace o15_0 := o15_0.below hb
  replace b1 := b1.below hb
  replace b9 := b9.below hb
  replace A := A.trans (hb.mono A.size)
  have z16 := hb.size
  clear hb
  clear o15_0
  have b1s := b1.1
  have b1c := b1.2
  have b9s := b9.1
  have b9c := b9.2
  go_wp2_with fail
  clear b1s b1c b9s b9c
  refine (u_to_SI _ aValues_x0 _ (hValues_0.below A) (by omega)).mono ?_
  rintro e w17 ⟨yValues_v0, rfl, o17_0, hb⟩
  replace o8_1 := o8_1.below hb
  replace o10_0 := o10_0.below hb
  replace o11_0 := o11_0.below hb
  replace b1 := b1.below hb
  replace b9 := b9.below hb
  replace A := A.trans (hb.mono A.size)
  have z17 := hb.size
  clear hb
  have b1s := b1.1
  have b1c := b1.2
  have b9s := b9.1
  have b9c := b9.2
  go_wp2_with fail
  clear b1s b1c b9s b9c
  refine (u_eq_SI _ _ aValues_x0 _ o11_0.sl o17_0.sl (by omega)).mono ?_
  rintro e w18 ⟨rfl, hb⟩
  replace o8_1 := o8_1.below hb
  replace o10_0 := o10_0.below hb
  replace o11_0 := o11_0.below hb
  replace o17_0 := o17_0.below hb
  replace b1 := b1.below hb
  replace b9 := b9.below hb
  replace A := A.trans (hb.mono A.size)
  have z18 := hb.size
  clear hb
  clear o17_0
  have b1s := b1.1
  have b1c := b1.2
  have b9s := b9.1
  have b9c := b9.2
  have BB := Lib.hid A; clear A
  clear o8_1 o10_0 o11_0
  go_wp2
  go_ret
  exact ⟨rfl, BB.out⟩
theorem final_SolveOnFrame (n : Int) (va : Value) (xs : List Int) (vf : Value) (zs : List Nd) (v : Int) (vu : Value) (vs : List Int) (w : World) (ha : Sl cI w va xs) (hf : Sl cN w vf zs) (hu : Sl cI w vu vs) :
    Calls Try.prog 12 #[.agg #[.int .i64 n, va], vf, .int .i64 v, vu] w fun e w' => e = .returned (.bool true) ∧ Below w.heap.size w w' := by
  by_cases hc : scode n xs vs zs v = 0
  · obtain ⟨⟨ns, us, rfl, rfl, rfl, hr, hu6, hus⟩, ⟨f, hok, rfl, hl⟩, s, rfl, hs⟩ := scode_zero hc
    cases h1 : trv ns
    · exact walk_SolveOnFrame _ va _ vf _ _ vu _ 0 5 w ha hf hu
        (Lib.hid fun _ _ W va vf vu ha hf hu => spec_SolveOnFrame_no1 ns us f s va vu vf W ha hu hf hr hu6 hus hok hl hs hc h1)
        (Lib.hid fun _ _ W va vf vu ha hf hu => impl_SolveOnFrame_no1 ns us f s va vu vf W ha hu hf hr hu6 hus hok hl hs hc h1)
    · cases h2 : acy ns
      · exact walk_SolveOnFrame _ va _ vf _ _ vu _ 0 5 w ha hf hu
          (Lib.hid fun _ _ W va vf vu ha hf hu => spec_SolveOnFrame_no2 ns us f s va vu vf W ha hu hf hr hu6 hus hok hl hs hc h1 h2)
          (Lib.hid fun _ _ W va vf vu ha hf hu => impl_SolveOnFrame_no2 ns us f s va vu vf W ha hu hf hr hu6 hus hok hl hs hc h1 h2)
      · cases h3 : gd f s
        · exact walk_SolveOnFrame _ va _ vf _ _ vu _ 0 5 w ha hf hu
            (Lib.hid fun _ _ W va vf vu ha hf hu => spec_SolveOnFrame_no3 ns us f s va vu vf W ha hu hf hr hu6 hus hok hl hs hc h1 h2 h3)
            (Lib.hid fun _ _ W va vf vu ha hf hu => impl_SolveOnFrame_no3 ns us f s va vu vf W ha hu hf hr hu6 hus hok hl hs hc h1 h2 h3)
        · exact walk_SolveOnFrame _ va _ vf _ _ vu _ (slvn ns us f s ns.length : Nat) 0 w ha hf hu
            (Lib.hid fun _ _ W va vf vu ha hf hu => spec_SolveOnFrame_ok ns us f s va vu vf W ha hu hf hr hu6 hus hok hl hs hc h1 h2 h3)
            (Lib.hid fun _ _ W va vf vu ha hf hu => impl_SolveOnFrame_ok ns us f s va vu vf W ha hu hf hr hu6 hus hok hl hs hc h1 h2 h3)
  · exact walk_SolveOnFrame n va xs vf zs v vu vs 0 (scode n xs vs zs v) w ha hf hu
      (Lib.hid fun h1 h2 W va vf vu ha hf hu => spec_SolveOnFrame_bad n v va vu vf xs vs zs W ha hu hf (by omega) h1 (by omega) hc)
      (Lib.hid fun h1 h2 W va vf vu ha hf hu => impl_SolveOnFrame_bad n v va vu vf xs vs zs W ha hu hf (by omega) h1 (by omega) hc)
end Go.Proofs.Ytbejakkcdbhmaaa

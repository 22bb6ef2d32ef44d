/- The walk of the law FnExactFormulaOfTrace, written by program: it returns true and writes nothing that was there. -/
import Derived.Test.YtbmknlfpaggbnaaLUs
import Derived.Test.YtbmknlfpaggbnaaLT
import Derived.Test.Ytbmknlfpaggbnaa03k
namespace Go.Proofs.Ytbmknlfpaggbnaa
open Go.RowKit
set_option linter.unusedVariables false
set_option linter.unusedSimpArgs false
theorem walk_FormulaOfTrace (aA_x0 : Bool) (vA_1 : Value) (aA_x1 : List Int) (r0_x0 : List Nd) (r1_x0 : Int) (w : World) (hA_1 : Sl cI w vA_1 aA_x1) (hr0_0 : r0_x0.length ≤ 1048576)
    (HS : Hid (aA_x1.length ≤ 1048576 → ∀ (W : World) (vA_1 : Value), Sl cI W vA_1 aA_x1 → Calls Try.prog 48 #[.agg #[.bool aA_x0, vA_1]] W fun e w' => ∃ u0_0 : Value, e = .returned (.tuple #[u0_0, .int .i64 r1_x0]) ∧ Ob cN 68 W.heap.size w'.heap.size w' u0_0 r0_x0 ∧ Below W.heap.size W w'))
    (HI : Hid (aA_x1.length ≤ 1048576 → ∀ (W : World) (vA_1 : Value), Sl cI W vA_1 aA_x1 → Calls Try.prog 49 #[.agg #[.bool aA_x0, vA_1]] W fun e w' => ∃ u0_0 : Value, e = .returned (.tuple #[u0_0, .int .i64 r1_x0]) ∧ Ob cN 68 W.heap.size w'.heap.size w' u0_0 r0_x0 ∧ Below W.heap.size W w')) :
    Calls Try.prog 13 #[.agg #[.bool aA_x0, vA_1]] w fun e w' => e = .returned (.bool true) ∧ Below w.heap.size w w' := by
  rcases Nat.lt_or_ge 1048576 (aA_x1.length) with q0 | q0
  · obtain ⟨vA_1_A, vA_1_c, rfl⟩ := hA_1.opn
    have A := Below.refl w.heap.size w
    go_enter Try.func13, Try.ntmps13
    have hb1 := below_alloc' w (.cells #[.bool aA_x0, .slice vA_1_A aA_x1.length vA_1_c] 31)
    have y1 := size_alloc' w (.cells #[.bool aA_x0, .slice vA_1_A aA_x1.length vA_1_c] 31)
    replace A := A.trans (hb1.mono A.size)
    have z1 := hb1.size
    have b1 := Bk.new w #[.bool aA_x0, .slice vA_1_A aA_x1.length vA_1_c] 31
    clear hb1
    have b1s := b1.1
    have b1c := b1.2
    go_wp2_with fail
    clear b1s b1c
    refine (u_sz_Trace aA_x0 _ aA_x1 _ _ (hA_1.below A) (by omega)).mono ?_
    rintro e w2 ⟨rfl, hb⟩
    replace b1 := b1.below hb
    replace A := A.trans (hb.mono A.size)
    have z2 := hb.size
    clear hb
    rw [szL_neg (by omega)]
    have b1s := b1.1
    have b1c := b1.2
    have BB := Lib.hid A; clear A
    go_wp2
    go_ret
    exact ⟨rfl, BB.out⟩
  have HS := Lib.hid (HS.out (by omega))
  have HI := Lib.hid (HI.out (by omega))
  obtain ⟨vA_1_A, vA_1_c, rfl⟩ := hA_1.opn
  have A := Below.refl w.heap.size w
  go_enter Try.func13, Try.ntmps13
  have hb1 := below_alloc' w (.cells #[.bool aA_x0, .slice vA_1_A aA_x1.length vA_1_c] 31)
  have y1 := size_alloc' w (.cells #[.bool aA_x0, .slice vA_1_A aA_x1.length vA_1_c] 31)
  replace A := A.trans (hb1.mono A.size)
  have z1 := hb1.size
  have b1 := Bk.new w #[.bool aA_x0, .slice vA_1_A aA_x1.length vA_1_c] 31
  clear hb1
  have b1s := b1.1
  have b1c := b1.2
  go_wp2_with fail
  clear b1s b1c
  refine (u_sz_Trace aA_x0 _ aA_x1 _ _ (hA_1.below A) (by omega)).mono ?_
  rintro e w2 ⟨rfl, hb⟩
  replace b1 := b1.below hb
  replace A := A.trans (hb.mono A.size)
  have z2 := hb.size
  clear hb
  rw [szL_pos (by omega)]
  have b1s := b1.1
  have b1c := b1.2
  go_wp2_with fail
  clear b1s b1c
  refine (u_to_Trace aA_x0 _ aA_x1 _ (hA_1.below A) (by omega)).mono ?_
  rintro e w3 ⟨tA_v1, rfl, o3_1, hb⟩
  replace b1 := b1.below hb
  replace A := A.trans (hb.mono A.size)
  have z3 := hb.size
  clear hb
  obtain ⟨tA_v1_A, tA_v1_c, rfl⟩ := o3_1.opn
  have b1s := b1.1
  have b1c := b1.2
  go_wp2_with fail
  clear b1s b1c
  refine (HS.out _ _ o3_1.sl).mono ?_
  rintro e w4 ⟨w0_v0, rfl, r4_w0_0, hb⟩
  replace o3_1 := o3_1.below hb
  replace b1 := b1.below hb
  replace A := A.trans (hb.mono A.size)
  have z4 := hb.size
  clear hb
  clear o3_1
  have b1s := b1.1
  have b1c := b1.2
  go_wp2_with fail
  clear b1s b1c
  refine (u_to_Trace aA_x0 _ aA_x1 _ (hA_1.below A) (by omega)).mono ?_
  rintro e w5 ⟨xA_v1, rfl, o5_1, hb⟩
  replace r4_w0_0 := r4_w0_0.below hb
  replace b1 := b1.below hb
  replace A := A.trans (hb.mono A.size)
  have z5 := hb.size
  clear hb
  obtain ⟨xA_v1_A, xA_v1_c, rfl⟩ := o5_1.opn
  have hb6 := below_alloc' w5 (.cells #[.bool aA_x0, .slice xA_v1_A aA_x1.length xA_v1_c] 33)
  have y6 := size_alloc' w5 (.cells #[.bool aA_x0, .slice xA_v1_A aA_x1.length xA_v1_c] 33)
  replace r4_w0_0 := r4_w0_0.below hb6
  replace o5_1 := o5_1.below hb6
  replace b1 := b1.below hb6
  replace A := A.trans (hb6.mono A.size)
  have z6 := hb6.size
  have b6 := Bk.new w5 #[.bool aA_x0, .slice xA_v1_A aA_x1.length xA_v1_c] 33
  clear hb6
  have b1s := b1.1
  have b1c := b1.2
  have b6s := b6.1
  have b6c := b6.2
  go_wp2_with fail
  clear b1s b1c b6s b6c
  refine (HI.out _ _ o5_1.sl).mono ?_
  rintro e w7 ⟨g0_v0, rfl, r7_g0_0, hb⟩
  replace r4_w0_0 := r4_w0_0.below hb
  replace o5_1 := o5_1.below hb
  replace b1 := b1.below hb
  replace b6 := b6.below hb
  replace A := A.trans (hb.mono A.size)
  have z7 := hb.size
  clear hb
  have b1s := b1.1
  have b1c := b1.2
  have b6s := b6.1
  have b6c := b6.2
  go_wp2_with fail
  clear b1s b1c b6s b6c
  refine (u_eq_SN _ _ r0_x0 _ r7_g0_0.sl r4_w0_0.sl (by omega)).mono ?_
  rintro e w8 ⟨rfl, hb⟩
  replace r4_w0_0 := r4_w0_0.below hb
  replace o5_1 := o5_1.below hb
  replace r7_g0_0 := r7_g0_0.below hb
  replace b1 := b1.below hb
  replace b6 := b6.below hb
  replace A := A.trans (hb.mono A.size)
  have z8 := hb.size
  clear hb
  have b1s := b1.1
  have b1c := b1.2
  have b6s := b6.1
  have b6c := b6.2
  go_wp2_with fail
  clear b1s b1c b6s b6c
  have hq10_1 := hA_1.below A
  have c0 : w8.cell? ⟨w5.heap.size, 0, none⟩ = some (.bool aA_x0) := b6.2 0
  have c1 : w8.cell? ⟨w5.heap.size, 1, none⟩ = some (.slice xA_v1_A aA_x1.length xA_v1_c) := b6.2 1
  have d0 : w8.cell? ⟨w.heap.size, 0, none⟩ = some (.bool aA_x0) := b1.2 0
  have d1 : w8.cell? ⟨w.heap.size, 1, none⟩ = some (.slice vA_1_A aA_x1.length vA_1_c) := b1.2 1
  go_region_held3 (fun w' => w'.cell? ⟨w5.heap.size, 0, none⟩ = some (.bool aA_x0) ∧ w'.cell? ⟨w5.heap.size, 1, none⟩ = some (.slice xA_v1_A aA_x1.length xA_v1_c) ∧ w'.cell? ⟨w.heap.size, 0, none⟩ = some (.bool aA_x0) ∧ w'.cell? ⟨w.heap.size, 1, none⟩ = some (.slice vA_1_A aA_x1.length vA_1_c)) (first | exact ⟨c0'', c1'', d0'', d1''⟩ | exact ⟨c0', c1', d0', d1'⟩ | exact ⟨c0, c1, d0, d1⟩ | (simp [*]; done)) (first | (go_at_call 22; refine (u_to_Trace aA_x0 _ aA_x1 _ (hq10_1.below (below_drewN (Below.refl _ _) 1)) (by omega)).mono ?_; rintro e w9 ⟨y10_1, rfl, oy10_1, hbP⟩; obtain ⟨y10_1_A, y10_1_c, rfl⟩ := oy10_1.opn; have hbP1 : Below w8.heap.size w8 w9 := (below_drewN (Below.refl _ _) 1).trans hbP; have c0' := (hbP1.cell (p := ⟨w5.heap.size, 0, none⟩) b6.1).trans c0; have c1' := (hbP1.cell (p := ⟨w5.heap.size, 1, none⟩) b6.1).trans c1; have d0' := (hbP1.cell (p := ⟨w.heap.size, 0, none⟩) b1.1).trans d0; have d1' := (hbP1.cell (p := ⟨w.heap.size, 1, none⟩) b1.1).trans d1) | (go_at_call 24; refine (u_eq_Trace aA_x0 _ _ aA_x1 _ (o5_1.below hbP1).sl oy10_1.sl (by omega)).mono ?_; rintro e w10 ⟨rfl, hbQ⟩; have c0'' := (hbQ.cell (p := ⟨w5.heap.size, 0, none⟩) (b6.below hbP1).1).trans c0'; have c1'' := (hbQ.cell (p := ⟨w5.heap.size, 1, none⟩) (b6.below hbP1).1).trans c1'; have d0'' := (hbQ.cell (p := ⟨w.heap.size, 0, none⟩) (b1.below hbP1).1).trans d0'; have d1'' := (hbQ.cell (p := ⟨w.heap.size, 1, none⟩) (b1.below hbP1).1).trans d1'))
  have hb := bthen hbP1 hbQ
  clear c0'' c0' c0 c1'' c1' c1 d0'' d0' d0 d1'' d1' d1
  clear hbP hbQ hbP1 oy10_1
  clear hq10_1
  replace r4_w0_0 := r4_w0_0.below hb
  replace o5_1 := o5_1.below hb
  replace r7_g0_0 := r7_g0_0.below hb
  replace b1 := b1.below hb
  replace b6 := b6.below hb
  replace A := A.trans (hb.mono A.size)
  have z10 := hb.size
  clear hb
  have b1s := b1.1
  have b1c := b1.2
  have b6s := b6.1
  have b6c := b6.2
  go_wp2_with fail
  clear b1s b1c b6s b6c
  refine (u_mark_Trace aA_x0 _ aA_x1 _ _ _ _ o5_1 (by omega) (by omega)).mono ?_
  rintro e w11 ⟨rfl, no5_1, hk⟩
  replace r4_w0_0 := r4_w0_0.keep hk (by omega)
  replace r7_g0_0 := r7_g0_0.keep hk (by omega)
  clear o5_1; have o5_1 := no5_1; clear no5_1
  replace b1 := b1.keep hk (by omega)
  replace b6 := b6.keep hk (by omega)
  replace A := below_keep A hk (by omega) A.size
  have z11 := hk.size
  clear hk
  have b1s := b1.1
  have b1c := b1.2
  have b6s := b6.1
  have b6c := b6.2
  go_wp2_with fail
  clear b1s b1c b6s b6c
  refine (u_eq_SN _ _ r0_x0 _ r7_g0_0.sl r4_w0_0.sl (by omega)).mono ?_
  rintro e w12 ⟨rfl, hb⟩
  replace r4_w0_0 := r4_w0_0.below hb
  replace o5_1 := o5_1.below hb
  replace r7_g0_0 := r7_g0_0.below hb
  replace b1 := b1.below hb
  replace b6 := b6.below hb
  replace A := A.trans (hb.mono A.size)
  have z12 := hb.size
  clear hb
  clear o5_1
  have b1s := b1.1
  have b1c := b1.2
  have b6s := b6.1
  have b6c := b6.2
  go_wp2_with fail
  clear b1s b1c b6s b6c
  refine (u_mark_SN _ r0_x0 _ _ _ _ r7_g0_0 (by omega) (by omega)).mono ?_
  rintro e w13 ⟨rfl, nr7_g0_0, hk⟩
  replace r4_w0_0 := r4_w0_0.keep hk (by omega)
  clear r7_g0_0; have r7_g0_0 := nr7_g0_0; clear nr7_g0_0
  replace b1 := b1.keep hk (by omega)
  replace b6 := b6.keep hk (by omega)
  replace A := below_keep A hk (by omega) A.size
  have z13 := hk.size
  clear hk
  have b1s := b1.1
  have b1c := b1.2
  have b6s := b6.1
  have b6c := b6.2
  go_wp2_with fail
  clear b1s b1c b6s b6c
  refine (u_held_SN _ r0_x0.length _ _ r7_g0_0.sl (by omega) (by omega)).mono ?_
  rintro e w14 ⟨rfl, hb⟩
  replace r4_w0_0 := r4_w0_0.below hb
  replace r7_g0_0 := r7_g0_0.below hb
  replace b1 := b1.below hb
  replace b6 := b6.below hb
  replace A := A.trans (hb.mono A.size)
  have z14 := hb.size
  clear hb
  have b1s := b1.1
  have b1c := b1.2
  have b6s := b6.1
  have b6c := b6.2
  go_wp2_with fail
  clear b1s b1c b6s b6c
  refine (u_to_Trace aA_x0 _ aA_x1 _ (hA_1.below A) (by omega)).mono ?_
  rintro e w15 ⟨sA_v1, rfl, o15_1, hb⟩
  replace r4_w0_0 := r4_w0_0.below hb
  replace r7_g0_0 := r7_g0_0.below hb
  replace b1 := b1.below hb
  replace b6 := b6.below hb
  replace A := A.trans (hb.mono A.size)
  have z15 := hb.size
  clear hb
  obtain ⟨sA_v1_A, sA_v1_c, rfl⟩ := o15_1.opn
  have b1s := b1.1
  have b1c := b1.2
  have b6s := b6.1
  have b6c := b6.2
  go_wp2_with fail
  clear b1s b1c b6s b6c
  refine (HI.out _ _ o15_1.sl).mono ?_
  rintro e w16 ⟨h0_v0, rfl, r16_h0_0, hb⟩
  replace r4_w0_0 := r4_w0_0.below hb
  replace r7_g0_0 := r7_g0_0.below hb
  replace o15_1 := o15_1.below hb
  replace b1 := b1.below hb
  replace b6 := b6.below hb
  replace A := A.trans (hb.mono A.size)
  have z16 := hb.size
  clear hb
  clear o15_1
  have b1s := b1.1
  have b1c := b1.2
  have b6s := b6.1
  have b6c := b6.2
  go_wp2_with fail
  clear b1s b1c b6s b6c
  refine (u_eq_SN _ _ r0_x0 _ r16_h0_0.sl r4_w0_0.sl (by omega)).mono ?_
  rintro e w17 ⟨rfl, hb⟩
  replace r4_w0_0 := r4_w0_0.below hb
  replace r7_g0_0 := r7_g0_0.below hb
  replace r16_h0_0 := r16_h0_0.below hb
  replace b1 := b1.below hb
  replace b6 := b6.below hb
  replace A := A.trans (hb.mono A.size)
  have z17 := hb.size
  clear hb
  have b1s := b1.1
  have b1c := b1.2
  have b6s := b6.1
  have b6c := b6.2
  go_wp2_with fail
  clear b1s b1c b6s b6c
  refine (u_held_SN _ r0_x0.length _ _ r7_g0_0.sl (by omega) (by omega)).mono ?_
  rintro e w18 ⟨rfl, hb⟩
  replace r4_w0_0 := r4_w0_0.below hb
  replace r7_g0_0 := r7_g0_0.below hb
  replace r16_h0_0 := r16_h0_0.below hb
  replace b1 := b1.below hb
  replace b6 := b6.below hb
  replace A := A.trans (hb.mono A.size)
  have z18 := hb.size
  clear hb
  have b1s := b1.1
  have b1c := b1.2
  have b6s := b6.1
  have b6c := b6.2
  have BB := Lib.hid A; clear A
  clear r4_w0_0 r7_g0_0 r16_h0_0
  go_wp2
  go_ret
  exact ⟨rfl, BB.out⟩
theorem final_FormulaOfTrace (b : Bool) (v : Value) (xs : List Int) (w : World) (h : Sl cI w v xs) :
    Calls Try.prog 13 #[.agg #[.bool b, v]] w fun e w' => e = .returned (.bool true) ∧ Below w.heap.size w w' := by
  cases hc : okT xs
  · exact walk_FormulaOfTrace b v _ [] 1 w h (by simp) (Lib.hid fun hl W u hu => (spec_FormulaOfTrace_bad u b xs W hu hl hc).mono fun e w' ⟨he, hb⟩ => ⟨_, he, (Ow.nil _ _).ob, hb⟩)
      (Lib.hid fun hl W u hu => (impl_FormulaOfTrace_bad u b xs W hu hl hc).mono fun e w' ⟨he, hb⟩ => ⟨_, he, (Ow.nil _ _).ob, hb⟩)
  · exact walk_FormulaOfTrace b v _ (madeL (outL b xs)) (madeC (outL b xs)) w h (by have := madeL_length (outL b xs); omega) (Lib.hid fun hl W u hu => (spec_FormulaOfTrace_ok u b xs W hu hl hc).mono fun e w' ⟨u, he, ho, hb⟩ => ⟨u, he, ho.ob, hb⟩)
      (Lib.hid fun hl W u hu => (impl_FormulaOfTrace_ok u b xs W hu hl hc).mono fun e w' ⟨u, he, ho, hb⟩ => ⟨u, he, ho.ob, hb⟩)
end Go.Proofs.Ytbmknlfpaggbnaa

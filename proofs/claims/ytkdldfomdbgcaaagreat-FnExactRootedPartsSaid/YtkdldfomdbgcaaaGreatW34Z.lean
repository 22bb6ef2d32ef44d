/- The walk of the law FnExactRootedParts, written by program: it returns true and writes nothing that was there. -/
import Derived.Test.YtkdldfomdbgcaaaGreatLB
import Derived.Test.YtkdldfomdbgcaaaGreatLP
import Derived.Test.YtkdldfomdbgcaaaGreat34Y
namespace Go.Proofs.YtkdldfomdbgcaaaGreat
open Go.RowKit
set_option linter.unusedVariables false
set_option linter.unusedSimpArgs false
set_option maxHeartbeats 1000000 in
set_option maxRecDepth 100000 in
theorem walk_RootedParts (aP_x0 : Int) (vP_1 : Value) (aP_x1 : List Int) (r0_x0 : List (Int × List Int)) (r1_x0 : Int) (w : World) (hP_1 : Sl cI w vP_1 aP_x1) (hr0_0 : szF r0_x0 ≤ 1048576)
    (HS : Hid (aP_x1.length ≤ 1048576 → ∀ (W : World) (vP_1 : Value), Sl cI W vP_1 aP_x1 → Calls Tryz.prog 6 #[.agg #[.int .i64 aP_x0, vP_1]] W fun e w' => ∃ u0_0 : Value, e = .returned (.tuple #[u0_0, .int .i64 r1_x0]) ∧ ObP W.heap.size w'.heap.size w' u0_0 r0_x0 ∧ Below W.heap.size W w'))
    (HI : Hid (aP_x1.length ≤ 1048576 → ∀ (W : World) (vP_1 : Value), Sl cI W vP_1 aP_x1 → Calls Tryz.prog 8 #[.agg #[.int .i64 aP_x0, vP_1]] W fun e w' => ∃ u0_0 : Value, e = .returned (.tuple #[u0_0, .int .i64 r1_x0]) ∧ ObP W.heap.size w'.heap.size w' u0_0 r0_x0 ∧ Below W.heap.size W w')) :
    Calls Tryz.prog 3 #[.agg #[.int .i64 aP_x0, vP_1]] w fun e w' => e = .returned (.bool true) ∧ Below w.heap.size w w' := by
  rcases Nat.lt_or_ge 1048576 (aP_x1.length) with q0 | q0
  · obtain ⟨vP_1_A, vP_1_c, rfl⟩ := hP_1.opn
    have A := Below.refl w.heap.size w
    go_enter Tryz.func3, Tryz.ntmps3
    have hb1 := below_alloc' w (.cells #[.int .i64 aP_x0, .slice vP_1_A aP_x1.length vP_1_c] 24)
    have y1 := size_alloc' w (.cells #[.int .i64 aP_x0, .slice vP_1_A aP_x1.length vP_1_c] 24)
    replace A := A.trans (hb1.mono A.size)
    have z1 := hb1.size
    have b1 := Bk.new w #[.int .i64 aP_x0, .slice vP_1_A aP_x1.length vP_1_c] 24
    clear hb1
    have b1s := b1.1
    have b1c := b1.2
    go_wp2_with fail
    clear b1s b1c
    refine (u_sz_Poset aP_x0 _ aP_x1 _ _ (hP_1.below A) (by omega)).mono ?_
    rintro e w2 ⟨rfl, hb⟩
    replace b1 := b1.below hb
    replace A := A.trans (hb.mono A.size)
    have z2 := hb.size
    clear hb
    rw [szL_neg (by omega)]
    have b1s := b1.1
    have b1c := b1.2
    have BB := Lib.hid A; clear A
    go_wp2
    go_ret
    exact ⟨rfl, BB.out⟩
  have HS := Lib.hid (HS.out (by omega))
  have HI := Lib.hid (HI.out (by omega))
  obtain ⟨vP_1_A, vP_1_c, rfl⟩ := hP_1.opn
  have A := Below.refl w.heap.size w
  go_enter Tryz.func3, Tryz.ntmps3
  have hb1 := below_alloc' w (.cells #[.int .i64 aP_x0, .slice vP_1_A aP_x1.length vP_1_c] 24)
  have y1 := size_alloc' w (.cells #[.int .i64 aP_x0, .slice vP_1_A aP_x1.length vP_1_c] 24)
  replace A := A.trans (hb1.mono A.size)
  have z1 := hb1.size
  have b1 := Bk.new w #[.int .i64 aP_x0, .slice vP_1_A aP_x1.length vP_1_c] 24
  clear hb1
  have b1s := b1.1
  have b1c := b1.2
  go_wp2_with fail
  clear b1s b1c
  refine (u_sz_Poset aP_x0 _ aP_x1 _ _ (hP_1.below A) (by omega)).mono ?_
  rintro e w2 ⟨rfl, hb⟩
  replace b1 := b1.below hb
  replace A := A.trans (hb.mono A.size)
  have z2 := hb.size
  clear hb
  rw [szL_pos (by omega)]
  have b1s := b1.1
  have b1c := b1.2
  go_wp2_with fail
  clear b1s b1c
  refine (u_to_Poset aP_x0 _ aP_x1 _ (hP_1.below A) (by omega)).mono ?_
  rintro e w3 ⟨tP_v1, rfl, o3_1, hb⟩
  replace b1 := b1.below hb
  replace A := A.trans (hb.mono A.size)
  have z3 := hb.size
  clear hb
  obtain ⟨tP_v1_A, tP_v1_c, rfl⟩ := o3_1.opn
  have b1s := b1.1
  have b1c := b1.2
  go_wp2_with fail
  clear b1s b1c
  refine (HS.out _ _ o3_1.sl).mono ?_
  rintro e w4 ⟨w0_v0, rfl, r4_w0_0, hb⟩
  replace o3_1 := o3_1.below hb
  replace b1 := b1.below hb
  replace A := A.trans (hb.mono A.size)
  have z4 := hb.size
  clear hb
  clear o3_1
  have b1s := b1.1
  have b1c := b1.2
  go_wp2_with fail
  clear b1s b1c
  refine (u_to_Poset aP_x0 _ aP_x1 _ (hP_1.below A) (by omega)).mono ?_
  rintro e w5 ⟨xP_v1, rfl, o5_1, hb⟩
  replace r4_w0_0 := r4_w0_0.below hb
  replace b1 := b1.below hb
  replace A := A.trans (hb.mono A.size)
  have z5 := hb.size
  clear hb
  obtain ⟨xP_v1_A, xP_v1_c, rfl⟩ := o5_1.opn
  have hb6 := below_alloc' w5 (.cells #[.int .i64 aP_x0, .slice xP_v1_A aP_x1.length xP_v1_c] 29)
  have y6 := size_alloc' w5 (.cells #[.int .i64 aP_x0, .slice xP_v1_A aP_x1.length xP_v1_c] 29)
  replace r4_w0_0 := r4_w0_0.below hb6
  replace o5_1 := o5_1.below hb6
  replace b1 := b1.below hb6
  replace A := A.trans (hb6.mono A.size)
  have z6 := hb6.size
  have b6 := Bk.new w5 #[.int .i64 aP_x0, .slice xP_v1_A aP_x1.length xP_v1_c] 29
  clear hb6
  have b1s := b1.1
  have b1c := b1.2
  have b6s := b6.1
  have b6c := b6.2
  go_wp2_with fail
  clear b1s b1c b6s b6c
  refine (HI.out _ _ o5_1.sl).mono ?_
  rintro e w7 ⟨g0_v0, rfl, r7_g0_0, hb⟩
  replace r4_w0_0 := r4_w0_0.below hb
  replace o5_1 := o5_1.below hb
  replace b1 := b1.below hb
  replace b6 := b6.below hb
  replace A := A.trans (hb.mono A.size)
  have z7 := hb.size
  clear hb
  have b1s := b1.1
  have b1c := b1.2
  have b6s := b6.1
  have b6c := b6.2
  go_wp2_with fail
  clear b1s b1c b6s b6c
  refine (u_eq_PosetS _ _ r0_x0 _ r7_g0_0.sl r4_w0_0.sl (by omega)).mono ?_
  rintro e w8 ⟨rfl, hb⟩
  replace r4_w0_0 := r4_w0_0.below hb
  replace o5_1 := o5_1.below hb
  replace r7_g0_0 := r7_g0_0.below hb
  replace b1 := b1.below hb
  replace b6 := b6.below hb
  replace A := A.trans (hb.mono A.size)
  have z8 := hb.size
  clear hb
  have b1s := b1.1
  have b1c := b1.2
  have b6s := b6.1
  have b6c := b6.2
  go_wp2_with fail
  clear b1s b1c b6s b6c
  have hq10_1 := hP_1.below A
  have c0 : w8.cell? ⟨w5.heap.size, 0, none⟩ = some (.int .i64 aP_x0) := b6.2 0
  have c1 : w8.cell? ⟨w5.heap.size, 1, none⟩ = some (.slice xP_v1_A aP_x1.length xP_v1_c) := b6.2 1
  have d0 : w8.cell? ⟨w.heap.size, 0, none⟩ = some (.int .i64 aP_x0) := b1.2 0
  have d1 : w8.cell? ⟨w.heap.size, 1, none⟩ = some (.slice vP_1_A aP_x1.length vP_1_c) := b1.2 1
  go_region_held3 (fun w' => w'.cell? ⟨w5.heap.size, 0, none⟩ = some (.int .i64 aP_x0) ∧ w'.cell? ⟨w5.heap.size, 1, none⟩ = some (.slice xP_v1_A aP_x1.length xP_v1_c) ∧ w'.cell? ⟨w.heap.size, 0, none⟩ = some (.int .i64 aP_x0) ∧ w'.cell? ⟨w.heap.size, 1, none⟩ = some (.slice vP_1_A aP_x1.length vP_1_c)) (first | exact ⟨c0'', c1'', d0'', d1''⟩ | exact ⟨c0', c1', d0', d1'⟩ | exact ⟨c0, c1, d0, d1⟩ | (simp [*]; done)) (first | (go_at_call 7; refine (u_to_Poset aP_x0 _ aP_x1 _ (hq10_1.below (below_drewN (Below.refl _ _) 1)) (by omega)).mono ?_; rintro e w9 ⟨y10_1, rfl, oy10_1, hbP⟩; obtain ⟨y10_1_A, y10_1_c, rfl⟩ := oy10_1.opn; have hbP1 : Below w8.heap.size w8 w9 := (below_drewN (Below.refl _ _) 1).trans hbP; have c0' := (hbP1.cell (p := ⟨w5.heap.size, 0, none⟩) b6.1).trans c0; have c1' := (hbP1.cell (p := ⟨w5.heap.size, 1, none⟩) b6.1).trans c1; have d0' := (hbP1.cell (p := ⟨w.heap.size, 0, none⟩) b1.1).trans d0; have d1' := (hbP1.cell (p := ⟨w.heap.size, 1, none⟩) b1.1).trans d1) | (go_at_call 10; refine (u_eq_Poset aP_x0 _ _ aP_x1 _ (o5_1.below hbP1).sl oy10_1.sl (by omega)).mono ?_; rintro e w10 ⟨rfl, hbQ⟩; have c0'' := (hbQ.cell (p := ⟨w5.heap.size, 0, none⟩) (b6.below hbP1).1).trans c0'; have c1'' := (hbQ.cell (p := ⟨w5.heap.size, 1, none⟩) (b6.below hbP1).1).trans c1'; have d0'' := (hbQ.cell (p := ⟨w.heap.size, 0, none⟩) (b1.below hbP1).1).trans d0'; have d1'' := (hbQ.cell (p := ⟨w.heap.size, 1, none⟩) (b1.below hbP1).1).trans d1'))
  have hb := bthen hbP1 hbQ
  clear c0'' c0' c0 c1'' c1' c1 d0'' d0' d0 d1'' d1' d1
  clear hbP hbQ hbP1 oy10_1
  clear hq10_1
  replace r4_w0_0 := r4_w0_0.below hb
  replace o5_1 := o5_1.below hb
  replace r7_g0_0 := r7_g0_0.below hb
  replace b1 := b1.below hb
  replace b6 := b6.below hb
  replace A := A.trans (hb.mono A.size)
  have z10 := hb.size
  clear hb
  have b1s := b1.1
  have b1c := b1.2
  have b6s := b6.1
  have b6c := b6.2
  go_wp2_with fail
  clear b1s b1c b6s b6c
  refine (u_mark_Poset aP_x0 _ aP_x1 _ _ _ _ o5_1 (by omega) (by omega)).mono ?_
  rintro e w11 ⟨rfl, no5_1, hk⟩
  replace r4_w0_0 := r4_w0_0.keep hk (by omega)
  replace r7_g0_0 := r7_g0_0.keep hk (by omega)
  clear o5_1; have o5_1 := no5_1; clear no5_1
  replace b1 := b1.keep hk (by omega)
  replace b6 := b6.keep hk (by omega)
  replace A := below_keep A hk (by omega) A.size
  have z11 := hk.size
  clear hk
  have b1s := b1.1
  have b1c := b1.2
  have b6s := b6.1
  have b6c := b6.2
  go_wp2_with fail
  clear b1s b1c b6s b6c
  refine (u_eq_PosetS _ _ r0_x0 _ r7_g0_0.sl r4_w0_0.sl (by omega)).mono ?_
  rintro e w12 ⟨rfl, hb⟩
  replace r4_w0_0 := r4_w0_0.below hb
  replace o5_1 := o5_1.below hb
  replace r7_g0_0 := r7_g0_0.below hb
  replace b1 := b1.below hb
  replace b6 := b6.below hb
  replace A := A.trans (hb.mono A.size)
  have z12 := hb.size
  clear hb
  clear o5_1
  have b1s := b1.1
  have b1c := b1.2
  have b6s := b6.1
  have b6c := b6.2
  go_wp2_with fail
  clear b1s b1c b6s b6c
  refine (u_mark_PosetS _ r0_x0 _ _ _ _ r7_g0_0 (by omega) (by omega)).mono ?_
  rintro e w13 ⟨rfl, nr7_g0_0, hk⟩
  replace r4_w0_0 := r4_w0_0.keep hk (by omega)
  clear r7_g0_0; have r7_g0_0 := nr7_g0_0; clear nr7_g0_0
  replace b1 := b1.keep hk (by omega)
  replace b6 := b6.keep hk (by omega)
  replace A := below_keep A hk (by omega) A.size
  have z13 := hk.size
  clear hk
  have b1s := b1.1
  have b1c := b1.2
  have b6s := b6.1
  have b6c := b6.2
  go_wp2_with fail
  clear b1s b1c b6s b6c
  refine (u_held_PosetS _ r0_x0 _ _ r7_g0_0.sl (by omega) (by omega)).mono ?_
  rintro e w14 ⟨rfl, hb⟩
  replace r4_w0_0 := r4_w0_0.below hb
  replace r7_g0_0 := r7_g0_0.below hb
  replace b1 := b1.below hb
  replace b6 := b6.below hb
  replace A := A.trans (hb.mono A.size)
  have z14 := hb.size
  clear hb
  have b1s := b1.1
  have b1c := b1.2
  have b6s := b6.1
  have b6c := b6.2
  go_wp2_with fail
  clear b1s b1c b6s b6c
  refine (u_to_Poset aP_x0 _ aP_x1 _ (hP_1.below A) (by omega)).mono ?_
  rintro e w15 ⟨sP_v1, rfl, o15_1, hb⟩
  replace r4_w0_0 := r4_w0_0.below hb
  replace r7_g0_0 := r7_g0_0.below hb
  replace b1 := b1.below hb
  replace b6 := b6.below hb
  replace A := A.trans (hb.mono A.size)
  have z15 := hb.size
  clear hb
  obtain ⟨sP_v1_A, sP_v1_c, rfl⟩ := o15_1.opn
  have b1s := b1.1
  have b1c := b1.2
  have b6s := b6.1
  have b6c := b6.2
  go_wp2_with fail
  clear b1s b1c b6s b6c
  refine (HI.out _ _ o15_1.sl).mono ?_
  rintro e w16 ⟨h0_v0, rfl, r16_h0_0, hb⟩
  replace r4_w0_0 := r4_w0_0.below hb
  replace r7_g0_0 := r7_g0_0.below hb
  replace o15_1 := o15_1.below hb
  replace b1 := b1.below hb
  replace b6 := b6.below hb
  replace A := A.trans (hb.mono A.size)
  have z16 := hb.size
  clear hb
  clear o15_1
  have b1s := b1.1
  have b1c := b1.2
  have b6s := b6.1
  have b6c := b6.2
  go_wp2_with fail
  clear b1s b1c b6s b6c
  refine (u_eq_PosetS _ _ r0_x0 _ r16_h0_0.sl r4_w0_0.sl (by omega)).mono ?_
  rintro e w17 ⟨rfl, hb⟩
  replace r4_w0_0 := r4_w0_0.below hb
  replace r7_g0_0 := r7_g0_0.below hb
  replace r16_h0_0 := r16_h0_0.below hb
  replace b1 := b1.below hb
  replace b6 := b6.below hb
  replace A := A.trans (hb.mono A.size)
  have z17 := hb.size
  clear hb
  have b1s := b1.1
  have b1c := b1.2
  have b6s := b6.1
  have b6c := b6.2
  go_wp2_with fail
  clear b1s b1c b6s b6c
  refine (u_held_PosetS _ r0_x0 _ _ r7_g0_0.sl (by omega) (by omega)).mono ?_
  rintro e w18 ⟨rfl, hb⟩
  replace r4_w0_0 := r4_w0_0.below hb
  replace r7_g0_0 := r7_g0_0.below hb
  replace r16_h0_0 := r16_h0_0.below hb
  replace b1 := b1.below hb
  replace b6 := b6.below hb
  replace A := A.trans (hb.mono A.size)
  have z18 := hb.size
  clear hb
  have b1s := b1.1
  have b1c := b1.2
  have b6s := b6.1
  have b6c := b6.2
  have BB := Lib.hid A; clear A
  clear r4_w0_0 r7_g0_0 r16_h0_0
  go_wp2
  go_ret
  exact ⟨rfl, BB.out⟩
theorem fro_sz : ∀ (L : List (List Nat)), (∀ l ∈ L, l.length ≤ 8) → szF (fro L) ≤ L.length * 9
  | [], _ => by simp [fro, szF]
  | l :: L, h => by
    have h1 := h l (by simp)
    have h2 := fro_sz L fun l hl => h l (by simp [hl])
    show 1 + (li l).length + szF (fro L) ≤ _
    rw [li_length, List.length_cons, Nat.add_mul]
    omega
theorem final_RootedParts (b : Int) (v : Value) (xs : List Int) (w : World) (h : Sl cI w v xs) :
    Calls Tryz.prog 3 #[.agg #[.int .i64 b, v]] w fun e w' => e = .returned (.bool true) ∧ Below w.heap.size w w' := by
  by_cases hc : scd b xs = 0
  · have hp : psOk b xs = true := by
      unfold scd at hc
      split at hc
      · assumption
      · cases hc
    have h6 : ¬ 6 < b := fun h => by
      unfold scd at hc
      rw [if_pos hp, if_pos h] at hc
      cases hc
    obtain ⟨ns, rfl, rfl, hr, -⟩ := psOk_iff hp
    have h6' : ns.length ≤ 6 := by omega
    have hsz : szF (fro (rpt ns)) ≤ 1048576 := by
      have h1 := fro_sz (rpt ns) fun l hl => pse_in hr (x := ns.length) (by rw [pse_all]; exact hl)
      have h2 := pse_len ns ns.length
      rw [pse_all] at h2
      omega
    exact walk_RootedParts _ v _ (fro (rpt ns)) 0 w h hsz (Lib.hid fun _ W v hv => spec_RootedParts_ok ns v W hv hr hc h6') (Lib.hid fun _ W v hv => impl_RootedParts_ok ns v W hv hr hc h6')
  · exact walk_RootedParts b v xs [] (scd b xs) w h (by simp [szF])
      (Lib.hid fun l W v hv => (spec_RootedParts_bad b v xs W hv (by omega) hc).mono fun e w' ⟨he, hb⟩ => ⟨_, he, ObP.nil _ _ _, hb⟩)
      (Lib.hid fun l W v hv => (impl_RootedParts_bad b v xs W hv (by omega) hc).mono fun e w' ⟨he, hb⟩ => ⟨_, he, ObP.nil _ _ _, hb⟩)
end Go.Proofs.YtkdldfomdbgcaaaGreat

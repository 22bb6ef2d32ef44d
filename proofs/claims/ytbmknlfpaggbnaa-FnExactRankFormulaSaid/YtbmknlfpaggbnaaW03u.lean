/- The walk of the law FnExactRankFormula, written by program: it returns true and writes nothing that was there. -/
import Derived.Test.YtbmknlfpaggbnaaLUs
import Derived.Test.Ytbmknlfpaggbnaa03u
namespace Go.Proofs.Ytbmknlfpaggbnaa
open Go.RowKit
set_option linter.unusedVariables false
set_option linter.unusedSimpArgs false
theorem walk_RankFormula (aN_x0 : Int) (r0_x0 : List Nd) (r1_x0 : Int) (w : World)  (hr0_0 : r0_x0.length ≤ 1048576)
    (HS : Hid (∀ (W : World) , Calls Try.prog 34 #[.int .i64 aN_x0] W fun e w' => ∃ u0_0 : Value, e = .returned (.tuple #[u0_0, .int .i64 r1_x0]) ∧ Ob cN 68 W.heap.size w'.heap.size w' u0_0 r0_x0 ∧ Below W.heap.size W w'))
    (HI : Hid (∀ (W : World) , Calls Try.prog 35 #[.int .i64 aN_x0] W fun e w' => ∃ u0_0 : Value, e = .returned (.tuple #[u0_0, .int .i64 r1_x0]) ∧ Ob cN 68 W.heap.size w'.heap.size w' u0_0 r0_x0 ∧ Below W.heap.size W w')) :
    Calls Try.prog 7 #[.int .i64 aN_x0] w fun e w' => e = .returned (.bool true) ∧ Below w.heap.size w w' := by
  have A := Below.refl w.heap.size w
  go_enter Try.func7, Try.ntmps7
  go_wp2_with fail
  refine (HS.out _ ).mono ?_
  rintro e w1 ⟨w0_v0, rfl, r1_w0_0, hb⟩
  replace A := A.trans (hb.mono A.size)
  have z1 := hb.size
  clear hb
  go_wp2_with fail
  refine (HI.out _ ).mono ?_
  rintro e w2 ⟨g0_v0, rfl, r2_g0_0, hb⟩
  replace r1_w0_0 := r1_w0_0.below hb
  replace A := A.trans (hb.mono A.size)
  have z2 := hb.size
  clear hb
  go_wp2_with fail
  refine (u_eq_SN _ _ r0_x0 _ r2_g0_0.sl r1_w0_0.sl (by omega)).mono ?_
  rintro e w3 ⟨rfl, hb⟩
  replace r1_w0_0 := r1_w0_0.below hb
  replace r2_g0_0 := r2_g0_0.below hb
  replace A := A.trans (hb.mono A.size)
  have z3 := hb.size
  clear hb
  go_wp2_with fail
  refine (u_mark_SN _ r0_x0 _ _ _ _ r2_g0_0 (by omega) (by omega)).mono ?_
  rintro e w4 ⟨rfl, nr2_g0_0, hk⟩
  replace r1_w0_0 := r1_w0_0.keep hk (by omega)
  clear r2_g0_0; have r2_g0_0 := nr2_g0_0; clear nr2_g0_0
  replace A := below_keep A hk (by omega) A.size
  have z4 := hk.size
  clear hk
  go_wp2_with fail
  refine (u_held_SN _ r0_x0.length _ _ r2_g0_0.sl (by omega) (by omega)).mono ?_
  rintro e w5 ⟨rfl, hb⟩
  replace r1_w0_0 := r1_w0_0.below hb
  replace r2_g0_0 := r2_g0_0.below hb
  replace A := A.trans (hb.mono A.size)
  have z5 := hb.size
  clear hb
  go_wp2_with fail
  refine (HI.out _ ).mono ?_
  rintro e w6 ⟨h0_v0, rfl, r6_h0_0, hb⟩
  replace r1_w0_0 := r1_w0_0.below hb
  replace r2_g0_0 := r2_g0_0.below hb
  replace A := A.trans (hb.mono A.size)
  have z6 := hb.size
  clear hb
  go_wp2_with fail
  refine (u_eq_SN _ _ r0_x0 _ r6_h0_0.sl r1_w0_0.sl (by omega)).mono ?_
  rintro e w7 ⟨rfl, hb⟩
  replace r1_w0_0 := r1_w0_0.below hb
  replace r2_g0_0 := r2_g0_0.below hb
  replace r6_h0_0 := r6_h0_0.below hb
  replace A := A.trans (hb.mono A.size)
  have z7 := hb.size
  clear hb
  go_wp2_with fail
  refine (u_held_SN _ r0_x0.length _ _ r2_g0_0.sl (by omega) (by omega)).mono ?_
  rintro e w8 ⟨rfl, hb⟩
  replace r1_w0_0 := r1_w0_0.below hb
  replace r2_g0_0 := r2_g0_0.below hb
  replace r6_h0_0 := r6_h0_0.below hb
  replace A := A.trans (hb.mono A.size)
  have z8 := hb.size
  clear hb
  have BB := Lib.hid A; clear A
  clear r1_w0_0 r2_g0_0 r6_h0_0
  go_wp2
  go_ret
  exact ⟨rfl, BB.out⟩
theorem final_RankFormula (n : Int) (w : World) :
    Calls Try.prog 7 #[.int .i64 n] w fun e w' => e = .returned (.bool true) ∧ Below w.heap.size w w' := by
  by_cases hn : 0 ≤ n ∧ n ≤ 60
  · obtain ⟨m, rfl⟩ := Int.eq_ofNat_of_zero_le hn.1
    have h1 := inR_true (x := (m : Int)) (l := 0) (h := 60) hn.1 hn.2
    exact walk_RankFormula _ (madeL (rankL m)) (madeC (rankL m)) w (by have := madeL_length (rankL m); omega) (Lib.hid fun W => (spec_RankFormula m W h1 (by omega)).mono fun e w' ⟨u, he, ho, hb⟩ => ⟨u, he, ho.ob, hb⟩)
      (Lib.hid fun W => (impl_RankFormula m W h1 (by omega)).mono fun e w' ⟨u, he, ho, hb⟩ => ⟨u, he, ho.ob, hb⟩)
  · exact walk_RankFormula n [] 2 w (by simp) (Lib.hid fun W => (spec_RankFormula_no n W (inR_false hn)).mono fun e w' ⟨he, hw⟩ => ⟨_, he, (Ow.nil _ _).ob, hw ▸ Below.refl _ _⟩)
      (Lib.hid fun W => (impl_RankFormula_no n W (inR_false hn)).mono fun e w' ⟨he, hw⟩ => ⟨_, he, (Ow.nil _ _).ob, hw ▸ Below.refl _ _⟩)
end Go.Proofs.Ytbmknlfpaggbnaa

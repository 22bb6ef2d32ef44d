/- The walk of the law FnExactFirstFalseRank, written by program: it returns true and writes nothing that was there. -/
import Derived.Test.YtbmknlfpaggbnaaLUs
import Derived.Test.Ytbmknlfpaggbnaa32u
namespace Go.Proofs.Ytbmknlfpaggbnaa
open Go.RowKit
set_option linter.unusedVariables false
set_option linter.unusedSimpArgs false
theorem walk_FirstFalseRank (vA_0 : Value) (aA_x0 : List Nd) (r0_x0 : Int) (r1_x0 : Int) (w : World) (hA_0 : Sl cN w vA_0 aA_x0) 
    (HS : Hid (aA_x0.length ≤ 1048576 → ∀ (W : World) (vA_0 : Value), Sl cN W vA_0 aA_x0 → Calls Try.prog 46 #[vA_0] W fun e w' => e = .returned (.tuple #[.int .i64 r0_x0, .int .i64 r1_x0]) ∧ Below W.heap.size W w'))
    (HI : Hid (aA_x0.length ≤ 1048576 → ∀ (W : World) (vA_0 : Value), Sl cN W vA_0 aA_x0 → Calls Try.prog 47 #[vA_0] W fun e w' => e = .returned (.tuple #[.int .i64 r0_x0, .int .i64 r1_x0]) ∧ Below W.heap.size W w')) :
    Calls Try.prog 12 #[vA_0] w fun e w' => e = .returned (.bool true) ∧ Below w.heap.size w w' := by
  rcases Nat.lt_or_ge 1048576 (aA_x0.length) with q0 | q0
  · have A := Below.refl w.heap.size w
    go_enter Try.func12, Try.ntmps12
    go_wp2_with fail
    refine (u_sz_SN _ aA_x0 _ _ (hA_0.below A) (by omega)).mono ?_
    rintro e w1 ⟨rfl, hb⟩
    replace A := A.trans (hb.mono A.size)
    have z1 := hb.size
    clear hb
    rw [szL_neg (by omega)]
    have BB := Lib.hid A; clear A
    go_wp2
    go_ret
    exact ⟨rfl, BB.out⟩
  have HS := Lib.hid (HS.out (by omega))
  have HI := Lib.hid (HI.out (by omega))
  have A := Below.refl w.heap.size w
  go_enter Try.func12, Try.ntmps12
  go_wp2_with fail
  refine (u_sz_SN _ aA_x0 _ _ (hA_0.below A) (by omega)).mono ?_
  rintro e w1 ⟨rfl, hb⟩
  replace A := A.trans (hb.mono A.size)
  have z1 := hb.size
  clear hb
  rw [szL_pos (by omega)]
  go_wp2_with fail
  refine (u_to_SN _ aA_x0 _ (hA_0.below A) (by omega)).mono ?_
  rintro e w2 ⟨tA_v0, rfl, o2_0, hb⟩
  replace A := A.trans (hb.mono A.size)
  have z2 := hb.size
  clear hb
  go_wp2_with fail
  refine (HS.out _ _ o2_0.sl).mono ?_
  rintro e w3 ⟨rfl, hb⟩
  replace o2_0 := o2_0.below hb
  replace A := A.trans (hb.mono A.size)
  have z3 := hb.size
  clear hb
  clear o2_0
  go_wp2_with fail
  refine (u_to_SN _ aA_x0 _ (hA_0.below A) (by omega)).mono ?_
  rintro e w4 ⟨xA_v0, rfl, o4_0, hb⟩
  replace A := A.trans (hb.mono A.size)
  have z4 := hb.size
  clear hb
  go_wp2_with fail
  refine (HI.out _ _ o4_0.sl).mono ?_
  rintro e w5 ⟨rfl, hb⟩
  replace o4_0 := o4_0.below hb
  replace A := A.trans (hb.mono A.size)
  have z5 := hb.size
  clear hb
  go_wp2_with fail
  refine (u_to_SN _ aA_x0 _ (hA_0.below A) (by omega)).mono ?_
  rintro e w6 ⟨yA_v0, rfl, o6_0, hb⟩
  replace o4_0 := o4_0.below hb
  replace A := A.trans (hb.mono A.size)
  have z6 := hb.size
  clear hb
  go_wp2_with fail
  refine (u_eq_SN _ _ aA_x0 _ o4_0.sl o6_0.sl (by omega)).mono ?_
  rintro e w7 ⟨rfl, hb⟩
  replace o4_0 := o4_0.below hb
  replace o6_0 := o6_0.below hb
  replace A := A.trans (hb.mono A.size)
  have z7 := hb.size
  clear hb
  clear o6_0
  have BB := Lib.hid A; clear A
  clear o4_0
  go_wp2
  go_ret
  exact ⟨rfl, BB.out⟩
theorem final_FirstFalseRank (v : Value) (xs : List Nd) (w : World) (h : Sl cN w v xs) :
    Calls Try.prog 12 #[v] w fun e w' => e = .returned (.bool true) ∧ Below w.heap.size w w' := by
  by_cases hc : lcode [xs] = 0
  · obtain ⟨f, rfl, hv, hl⟩ := lcode_one hc
    exact walk_FirstFalseRank v _ (ffOut (rk f 0)).1 (ffOut (rk f 0)).2 w h (Lib.hid fun _ W u hu => spec_FirstFalseRank_ok u f W hu hl hc hv) (Lib.hid fun _ W u hu => impl_FirstFalseRank_ok u f W hu hl hc)
  · exact walk_FirstFalseRank v _ 0 (lcode [xs]) w h (Lib.hid fun hl W u hu => spec_FirstFalseRank_bad u xs W hu hl hc) (Lib.hid fun hl W u hu => impl_FirstFalseRank_bad u xs W hu hl hc)
end Go.Proofs.Ytbmknlfpaggbnaa

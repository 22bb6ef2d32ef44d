/- The walk of the law FnExactIsFixedPoint, written by program: it returns true and writes nothing that was there. -/
import Derived.Test.YtgcoohlakcncbaaGreatLB
import Derived.Test.YtgcoohlakcncbaaGreat33N
namespace Go.Proofs.YtgcoohlakcncbaaGreat
open Go.RowKit
set_option linter.unusedVariables false
set_option linter.unusedSimpArgs false
set_option maxHeartbeats 1000000 in
set_option maxRecDepth 100000 in
theorem walk_IsFixedPoint (vA_0 : Value) (aA_x0 : List Nd) (aV_x0 : Int) (vD_0 : Value) (aD_x0 : List Nd) (r0_x0 : Bool) (r1_x0 : Int) (w : World) (hA_0 : Sl cN w vA_0 aA_x0) (hD_0 : Sl cN w vD_0 aD_x0) 
    (HS : Hid (aA_x0.length + aD_x0.length ≤ 1048576 → ∀ (W : World) (vA_0 : Value) (vD_0 : Value), Sl cN W vA_0 aA_x0 → Sl cN W vD_0 aD_x0 → Calls Tryz.prog 8 #[vA_0, .int .i64 aV_x0, vD_0] W fun e w' => e = .returned (.tuple #[.bool r0_x0, .int .i64 r1_x0]) ∧ Below W.heap.size W w'))
    (HI : Hid (aA_x0.length + aD_x0.length ≤ 1048576 → ∀ (W : World) (vA_0 : Value) (vD_0 : Value), Sl cN W vA_0 aA_x0 → Sl cN W vD_0 aD_x0 → Calls Tryz.prog 10 #[vA_0, .int .i64 aV_x0, vD_0] W fun e w' => e = .returned (.tuple #[.bool r0_x0, .int .i64 r1_x0]) ∧ Below W.heap.size W w')) :
    Calls Tryz.prog 3 #[vA_0, .int .i64 aV_x0, vD_0] w fun e w' => e = .returned (.bool true) ∧ Below w.heap.size w w' := by
  rcases Nat.lt_or_ge 1048576 (aA_x0.length) with q0 | q0
  · have A := Below.refl w.heap.size w
    go_enter Tryz.func3, Tryz.ntmps3
    go_wp2_with fail
    refine (u_sz_SN _ aA_x0 _ _ (hA_0.below A) (by omega)).mono ?_
    rintro e w1 ⟨rfl, hb⟩
    replace A := A.trans (hb.mono A.size)
    have z1 := hb.size
    clear hb
    rw [szL_neg (by omega)]
    have BB := Lib.hid A; clear A
    go_wp2
    go_ret
    exact ⟨rfl, BB.out⟩
  rcases Nat.lt_or_ge 1048576 (aA_x0.length + aD_x0.length) with q1 | q1
  · have A := Below.refl w.heap.size w
    go_enter Tryz.func3, Tryz.ntmps3
    go_wp2_with fail
    refine (u_sz_SN _ aA_x0 _ _ (hA_0.below A) (by omega)).mono ?_
    rintro e w1 ⟨rfl, hb⟩
    replace A := A.trans (hb.mono A.size)
    have z1 := hb.size
    clear hb
    rw [szL_pos (by omega)]
    go_wp2_with fail
    refine (u_sz_SN _ aD_x0 _ _ (hD_0.below A) (by omega)).mono ?_
    rintro e w2 ⟨rfl, hb⟩
    replace A := A.trans (hb.mono A.size)
    have z2 := hb.size
    clear hb
    rw [szL_neg (by omega)]
    have BB := Lib.hid A; clear A
    go_wp2
    go_ret
    exact ⟨rfl, BB.out⟩
  have HS := Lib.hid (HS.out (by omega))
  have HI := Lib.hid (HI.out (by omega))
  have A := Below.refl w.heap.size w
  go_enter Tryz.func3, Tryz.ntmps3
  go_wp2_with fail
  refine (u_sz_SN _ aA_x0 _ _ (hA_0.below A) (by omega)).mono ?_
  rintro e w1 ⟨rfl, hb⟩
  replace A := A.trans (hb.mono A.size)
  have z1 := hb.size
  clear hb
  rw [szL_pos (by omega)]
  go_wp2_with fail
  refine (u_sz_SN _ aD_x0 _ _ (hD_0.below A) (by omega)).mono ?_
  rintro e w2 ⟨rfl, hb⟩
  replace A := A.trans (hb.mono A.size)
  have z2 := hb.size
  clear hb
  rw [szL_pos (by omega)]
  go_wp2_with fail
  refine (u_to_SN _ aA_x0 _ (hA_0.below A) (by omega)).mono ?_
  rintro e w3 ⟨tA_v0, rfl, o3_0, hb⟩
  replace A := A.trans (hb.mono A.size)
  have z3 := hb.size
  clear hb
  go_wp2_with fail
  refine (u_to_SN _ aD_x0 _ (hD_0.below A) (by omega)).mono ?_
  rintro e w4 ⟨tD_v0, rfl, o4_0, hb⟩
  replace o3_0 := o3_0.below hb
  replace A := A.trans (hb.mono A.size)
  have z4 := hb.size
  clear hb
  go_wp2_with fail
  refine (HS.out _ _ _ o3_0.sl o4_0.sl).mono ?_
  rintro e w5 ⟨rfl, hb⟩
  replace o3_0 := o3_0.below hb
  replace o4_0 := o4_0.below hb
  replace A := A.trans (hb.mono A.size)
  have z5 := hb.size
  clear hb
  clear o3_0
  clear o4_0
  go_wp2_with fail
  refine (u_to_SN _ aA_x0 _ (hA_0.below A) (by omega)).mono ?_
  rintro e w6 ⟨xA_v0, rfl, o6_0, hb⟩
  replace A := A.trans (hb.mono A.size)
  have z6 := hb.size
  clear hb
  go_wp2_with fail
  refine (u_to_SN _ aD_x0 _ (hD_0.below A) (by omega)).mono ?_
  rintro e w7 ⟨xD_v0, rfl, o7_0, hb⟩
  replace o6_0 := o6_0.below hb
  replace A := A.trans (hb.mono A.size)
  have z7 := hb.size
  clear hb
  go_wp2_with fail
  refine (HI.out _ _ _ o6_0.sl o7_0.sl).mono ?_
  rintro e w8 ⟨rfl, hb⟩
  replace o6_0 := o6_0.below hb
  replace o7_0 := o7_0.below hb
  replace A := A.trans (hb.mono A.size)
  have z8 := hb.size
  clear hb
  go_wp2_with fail
  refine (u_to_SN _ aA_x0 _ (hA_0.below A) (by omega)).mono ?_
  rintro e w9 ⟨yA_v0, rfl, o9_0, hb⟩
  replace o6_0 := o6_0.below hb
  replace o7_0 := o7_0.below hb
  replace A := A.trans (hb.mono A.size)
  have z9 := hb.size
  clear hb
  go_wp2_with fail
  refine (u_eq_SN _ _ aA_x0 _ o6_0.sl o9_0.sl (by omega)).mono ?_
  rintro e w10 ⟨rfl, hb⟩
  replace o6_0 := o6_0.below hb
  replace o7_0 := o7_0.below hb
  replace o9_0 := o9_0.below hb
  replace A := A.trans (hb.mono A.size)
  have z10 := hb.size
  clear hb
  clear o9_0
  go_wp2_with fail
  refine (u_to_SN _ aD_x0 _ (hD_0.below A) (by omega)).mono ?_
  rintro e w11 ⟨yD_v0, rfl, o11_0, hb⟩
  replace o6_0 := o6_0.below hb
  replace o7_0 := o7_0.below hb
  replace A := A.trans (hb.mono A.size)
  have z11 := hb.size
  clear hb
  go_wp2_with fail
  refine (u_eq_SN _ _ aD_x0 _ o7_0.sl o11_0.sl (by omega)).mono ?_
  rintro e w12 ⟨rfl, hb⟩
  replace o6_0 := o6_0.below hb
  replace o7_0 := o7_0.below hb
  replace o11_0 := o11_0.below hb
  replace A := A.trans (hb.mono A.size)
  have z12 := hb.size
  clear hb
  clear o11_0
  have BB := Lib.hid A; clear A
  clear o6_0 o7_0
  go_wp2
  go_ret
  exact ⟨rfl, BB.out⟩
theorem final_IsFixedPoint (v : Value) (xs : List Nd) (s : Int) (u : Value) (ys : List Nd) (w : World) (h : Sl cN w v xs) (h' : Sl cN w u ys) :
    Calls Tryz.prog 3 #[v, .int .i64 s, u] w fun e w' => e = .returned (.bool true) ∧ Below w.heap.size w w' := by
  cases hc : (isF xs && isF ys)
  · exact walk_IsFixedPoint v xs s u ys false 1 w h h' (Lib.hid fun hl W a b ha hb => spec_IsFixedPoint_bad a b xs ys s W ha hb (by omega) (by omega) hc) (Lib.hid fun hl W a b ha hb => impl_IsFixedPoint_bad a b xs ys s W ha hb (by omega) (by omega) hc)
  · cases hs : inR s 0 5
    · exact walk_IsFixedPoint v xs s u ys false 2 w h h' (Lib.hid fun hl W a b ha hb => spec_IsFixedPoint_range a b xs ys s W ha hb (by omega) (by omega) hc hs) (Lib.hid fun hl W a b ha hb => impl_IsFixedPoint_range a b xs ys s W ha hb (by omega) (by omega) hc hs)
    · rw [Bool.and_eq_true] at hc
      obtain ⟨f, hf, rfl, hl⟩ := (isF_iff xs).1 hc.1
      obtain ⟨g, hg, rfl, hl'⟩ := (isF_iff ys).1 hc.2
      have hs2 : 0 ≤ s ∧ s ≤ 5 := by unfold inR at hs; simpa using hs
      obtain ⟨n, rfl⟩ := Int.eq_ofNat_of_zero_le hs2.1
      have hn : n ≤ 5 := by omega
      have hi := Lib.hid (fun W a b ha hb => impl_IsFixedPoint_good f g a b n W ha hb hl hl' hf hg hn)
      have hp := Lib.hid (fun W a b ha hb => spec_IsFixedPoint_good f g a b n W ha hb hl hl' hf hg hn)
      cases hcc : ifc (f.sub n g) g
      · have e : ifR (f.sub n g) g n = #[.bool (ifv (f.sub n g) g n), .int .i64 0] := by unfold ifR; rw [if_neg (by rw [hcc]; decide)]
        rw [e] at hi hp
        exact walk_IsFixedPoint v _ _ u _ _ 0 w h h' (Lib.hid fun _ W a b ha hb => hp.out W a b ha hb) (Lib.hid fun _ W a b ha hb => hi.out W a b ha hb)
      · have e : ifR (f.sub n g) g n = #[.bool false, .int .i64 3] := by unfold ifR; rw [if_pos hcc]
        rw [e] at hi hp
        exact walk_IsFixedPoint v _ _ u _ _ 3 w h h' (Lib.hid fun _ W a b ha hb => hp.out W a b ha hb) (Lib.hid fun _ W a b ha hb => hi.out W a b ha hb)
end Go.Proofs.YtgcoohlakcncbaaGreat

/- Contracts of the order of frames, of the program: cmp.Or, compareFrames. -/
import Derived.Test.YtkdldfomdbgcaaaGreat34Q
import Derived.Test.YtkdldfomdbgcaaaGreat34L
import Derived.StillTailTactics
import Derived.Sort.Grow
namespace Go.Proofs.YtkdldfomdbgcaaaGreat
open Go.RowKit
set_option linter.unusedVariables false
set_option linter.unusedSimpArgs false
theorem cmp_Or2 (a b : Int) (g c : Nat) (w : World) (h0 : w.cell? ⟨g, 0, none⟩ = some (.int .i64 a)) (h1 : w.cell? ⟨g, 1, none⟩ = some (.int .i64 b)) :
    Calls Tryz.prog 87 #[.slice (some ⟨g, 0, none⟩) 2 c] w fun e w' => e = .returned (.int .i64 (if a = 0 then b else a)) ∧ w = w' := by
  by_cases ha : a = 0
  · subst ha
    rw [if_pos rfl]
    go_enter Tryz.func87, Tryz.ntmps87
    go_wp2
    refine wp_loop_rounds 3 ?_
    rw [rounds_succ]
    go_wp2
    rw [rounds_succ]
    by_cases hb : b = 0
    · subst hb
      go_wp2
      rw [rounds_succ]
      go_wp2
      go_ret
      exact ⟨rfl, rfl⟩
    · have hb2 : (b != 0) = true := bne_iff_ne.2 hb
      go_wp2
      go_ret
      exact ⟨rfl, rfl⟩
  · rw [if_neg ha]
    have ha2 : (a != 0) = true := bne_iff_ne.2 ha
    go_enter Tryz.func87, Tryz.ntmps87
    go_wp2
    refine wp_loop_rounds 1 ?_
    rw [rounds_succ]
    go_wp2
    go_ret
    exact ⟨rfl, rfl⟩
set_option maxRecDepth 100000 in
set_option maxHeartbeats 1000000 in
theorem impl_compareFrames (xs ys : List Nat) (v u : Value) (w : World) (hx : Sl cI w v (li xs)) (hy : Sl cI w u (li ys)) (hl : xs.length ≤ 1000) (hl2 : ys.length ≤ 1000) :
    Calls Tryz.prog 54 #[.agg #[.int .i64 (xs.length : Int), v], .agg #[.int .i64 (ys.length : Int), u]] w fun e w' => e = .returned (.int .i64 (cmf xs ys)) ∧ ∃ q os', w' = Go.Sort.grow (w.drewN q) os' := by
  obtain ⟨A0, c0, rfl⟩ := hx.opn
  obtain ⟨A1, c1, rfl⟩ := hy.opn
  rw [li_length] at hx hy ⊢
  rw [li_length]
  have e1 : cmf xs ys = if (if xs.length < ys.length then (-1 : Int) else if ys.length < xs.length then 1 else 0) = 0 then cml xs ys else (if xs.length < ys.length then (-1 : Int) else if ys.length < xs.length then 1 else 0) := by
    unfold cmf
    rw [cml]
    by_cases h1 : xs.length < ys.length
    · rw [if_pos h1, if_pos h1, if_neg (by decide)]
    · rw [if_neg h1, if_neg h1]
      by_cases h2 : ys.length < xs.length
      · rw [if_pos h2, if_pos h2, if_neg (by decide)]
      · rw [if_neg h2, if_neg h2, if_pos rfl]
  have E1 := Lib.hid e1
  have HC := Lib.hid (fun W => (cmp_Compare_int64 xs.length ys.length W).mono fun e w' ⟨h1, h2⟩ => (⟨h1, h2.symm⟩ : _ ∧ w' = W))
  have HS := Lib.hid (fun W (h1 : Sl cI W (.slice A0 xs.length c0) (li xs)) (h2 : Sl cI W (.slice A1 ys.length c1) (li ys)) => (slices_Compare_int64 xs ys _ _ W h1 h2 hl hl2).mono fun e w' ⟨h1, h2⟩ => (⟨h1, h2.symm⟩ : _ ∧ w' = W))
  have HX := Lib.hid hx
  have HY := Lib.hid hy
  clear hx hy e1
  generalize cmf xs ys = R at *
  generalize (if xs.length < ys.length then (-1 : Int) else if ys.length < xs.length then 1 else 0) = r1 at *
  generalize cml xs ys = r2 at *
  go_enter Tryz.func54, Tryz.ntmps54
  go_upto_region 1 with fail
  have hb := bthen (below_alloc' w (.cells #[.int .i64 (xs.length : Int), .slice A0 xs.length c0] 68)) (below_alloc' (w.alloc (.cells #[.int .i64 (xs.length : Int), .slice A0 xs.length c0] 68)) (.cells #[.int .i64 (ys.length : Int), .slice A1 ys.length c1] 68))
  have K1 := Lib.hid ((Blk.new w 68 #[.int .i64 (xs.length : Int), .slice A0 xs.length c0]).alloc (.cells #[.int .i64 (ys.length : Int), .slice A1 ys.length c1] 68))
  have K2 := Lib.hid (Blk.new' (g := w.heap.size + 1) (w.alloc (.cells #[.int .i64 (xs.length : Int), .slice A0 xs.length c0] 68)) 68 #[.int .i64 (ys.length : Int), .slice A1 ys.length c1] (by simp))
  replace HX := Lib.hid (HX.out.below hb)
  replace HY := Lib.hid (HY.out.below hb)
  have HG : Hid (∃ os, (w.alloc (.cells #[.int .i64 (xs.length : Int), .slice A0 xs.length c0] 68)).alloc (.cells #[.int .i64 (ys.length : Int), .slice A1 ys.length c1] 68) = Go.Sort.grow w os) := Lib.hid ⟨_, by rw [Go.Sort.alloc_eq_grow, Go.Sort.alloc_eq_grow, Go.Sort.grow_grow]⟩
  clear hb
  generalize World.alloc (World.alloc w _) _ = w1 at *
  have a0 := K1.out.cell 0
  have a1 := K1.out.cell 1
  have a2 := K1.out.lt
  have b0 := K2.out.cell 0
  have b1 := K2.out.cell 1
  have b2 := K2.out.lt
  go_wp2
  go_still_tail 10, (by kernel_rfl)
  repeat still_step
  still_call (HC.out _)
  repeat still_step
  still_call (HS.out _ (HX.out.drewN 1) (HY.out.drewN 1))
  repeat still_step
  refine wpStill_nil ?_
  change wpList _ _ _ _ _ (World.drew _)
  obtain ⟨w2, hw2⟩ : ∃ W, World.drew w1 = W := ⟨_, rfl⟩
  rw [hw2]
  clear a0 a1 a2 b0 b1 b2
  have HW2 := Lib.hid hw2
  clear hw2
  have HO := Lib.hid (fun g c W h0 h1 => cmp_Or2 r1 r2 g c W h0 h1)
  rw [← E1.out] at HO
  have hk := Blk.new w2 3 #[.int .i64 r1, .int .i64 r2]
  have k0 := hk.cell 0
  have k1 := hk.cell 1
  go_wp2_with fail
  refine (HO.out _ _ _ k0 k1).mono ?_
  rintro e w3 ⟨rfl, rfl⟩
  clear k0 k1 hk
  obtain ⟨os, hos⟩ := HG.out
  go_wp2
  go_ret
  refine ⟨rfl, 1, os ++ #[.cells #[.int .i64 r1, .int .i64 r2] 3], ?_⟩
  rw [← HW2.out, hos, Go.Sort.alloc_eq_grow]
  exact Go.Sort.grow_grow (w.drewN 1) os _
end Go.Proofs.YtkdldfomdbgcaaaGreat

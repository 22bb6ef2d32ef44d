/- The walk of the law FnExactMeetTraces, written by program: it returns true and writes nothing that was there. -/
import Derived.Test.YtgdmfihnbbgcoaaLB
import Derived.Test.YtgdmfihnbbgcoaaLT
import Derived.Test.YtgdmfihnbbgcoaaRb
import Derived.Test.Ytgdmfihnbbgcoaa32S
import Derived.Test.Ytgdmfihnbbgcoaa32V
namespace Go.Proofs.Ytgdmfihnbbgcoaa
open Go.RowKit
set_option linter.unusedVariables false
set_option linter.unusedSimpArgs false
set_option maxHeartbeats 1000000 in
set_option maxRecDepth 100000 in
theorem walk_MeetTraces (aT_x0 : Bool) (vT_1 : Value) (aT_x1 : List Int) (aU_x0 : Bool) (vU_1 : Value) (aU_x1 : List Int) (r0_x0 : Bool) (r0_x1 : List Int) (r1_x0 : Int) (w : World) (hT_1 : Sl cI w vT_1 aT_x1) (hU_1 : Sl cI w vU_1 aU_x1) (hr0_1 : r0_x1.length ≤ 1048576)
    (HS : Hid (aT_x1.length + aU_x1.length ≤ 1048576 → ∀ (W : World) (vT_1 : Value) (vU_1 : Value), Sl cI W vT_1 aT_x1 → Sl cI W vU_1 aU_x1 → Calls Try.prog 26 #[.agg #[.bool aT_x0, vT_1], .agg #[.bool aU_x0, vU_1]] W fun e w' => ∃ u0_1 : Value, e = .returned (.tuple #[.agg #[.bool r0_x0, u0_1], .int .i64 r1_x0]) ∧ Ob cI 2 W.heap.size w'.heap.size w' u0_1 r0_x1 ∧ Below W.heap.size W w'))
    (HI : Hid (aT_x1.length + aU_x1.length ≤ 1048576 → ∀ (W : World) (vT_1 : Value) (vU_1 : Value), Sl cI W vT_1 aT_x1 → Sl cI W vU_1 aU_x1 → Calls Try.prog 28 #[.agg #[.bool aT_x0, vT_1], .agg #[.bool aU_x0, vU_1]] W fun e w' => ∃ u0_1 : Value, e = .returned (.tuple #[.agg #[.bool r0_x0, u0_1], .int .i64 r1_x0]) ∧ Ob cI 2 W.heap.size w'.heap.size w' u0_1 r0_x1 ∧ Below W.heap.size W w')) :
    Calls Try.prog 5 #[.agg #[.bool aT_x0, vT_1], .agg #[.bool aU_x0, vU_1]] w fun e w' => e = .returned (.bool true) ∧ Below w.heap.size w w' := by
  rcases Nat.lt_or_ge 1048576 (aT_x1.length) with q0 | q0
  · obtain ⟨vT_1_A, vT_1_c, rfl⟩ := hT_1.opn
    obtain ⟨vU_1_A, vU_1_c, rfl⟩ := hU_1.opn
    have A := Below.refl w.heap.size w
    go_enter Try.func5, Try.ntmps5
    have hb1 := below_alloc' w (.cells #[.bool aT_x0, .slice vT_1_A aT_x1.length vT_1_c] 45)
    have y1 := size_alloc' w (.cells #[.bool aT_x0, .slice vT_1_A aT_x1.length vT_1_c] 45)
    replace A := A.trans (hb1.mono A.size)
    have z1 := hb1.size
    have b1 := Bk.new w #[.bool aT_x0, .slice vT_1_A aT_x1.length vT_1_c] 45
    clear hb1
    have hb2 := below_alloc' (w.alloc (.cells #[.bool aT_x0, .slice vT_1_A aT_x1.length vT_1_c] 45)) (.cells #[.bool aU_x0, .slice vU_1_A aU_x1.length vU_1_c] 45)
    have y2 := size_alloc' (w.alloc (.cells #[.bool aT_x0, .slice vT_1_A aT_x1.length vT_1_c] 45)) (.cells #[.bool aU_x0, .slice vU_1_A aU_x1.length vU_1_c] 45)
    replace b1 := b1.below hb2
    replace A := A.trans (hb2.mono A.size)
    have z2 := hb2.size
    have b2 := Bk.new (w.alloc (.cells #[.bool aT_x0, .slice vT_1_A aT_x1.length vT_1_c] 45)) #[.bool aU_x0, .slice vU_1_A aU_x1.length vU_1_c] 45
    rw [show (w.alloc (.cells #[.bool aT_x0, .slice vT_1_A aT_x1.length vT_1_c] 45)).heap.size = w.heap.size + 1 by simp] at b2
    clear hb2
    have b1s := b1.1
    have b1c := b1.2
    have b2s := b2.1
    have b2c := b2.2
    go_wp2_with fail
    clear b1s b1c b2s b2c
    refine (u_sz_Trace aT_x0 _ aT_x1 _ _ (hT_1.below A) (by omega)).mono ?_
    rintro e w3 ⟨rfl, hb⟩
    replace b1 := b1.below hb
    replace b2 := b2.below hb
    replace A := A.trans (hb.mono A.size)
    have z3 := hb.size
    clear hb
    rw [szL_neg (by omega)]
    have b1s := b1.1
    have b1c := b1.2
    have b2s := b2.1
    have b2c := b2.2
    have BB := Lib.hid A; clear A
    go_wp2
    go_ret
    exact ⟨rfl, BB.out⟩
  rcases Nat.lt_or_ge 1048576 (aT_x1.length + aU_x1.length) with q1 | q1
  · obtain ⟨vT_1_A, vT_1_c, rfl⟩ := hT_1.opn
    obtain ⟨vU_1_A, vU_1_c, rfl⟩ := hU_1.opn
    have A := Below.refl w.heap.size w
    go_enter Try.func5, Try.ntmps5
    have hb1 := below_alloc' w (.cells #[.bool aT_x0, .slice vT_1_A aT_x1.length vT_1_c] 45)
    have y1 := size_alloc' w (.cells #[.bool aT_x0, .slice vT_1_A aT_x1.length vT_1_c] 45)
    replace A := A.trans (hb1.mono A.size)
    have z1 := hb1.size
    have b1 := Bk.new w #[.bool aT_x0, .slice vT_1_A aT_x1.length vT_1_c] 45
    clear hb1
    have hb2 := below_alloc' (w.alloc (.cells #[.bool aT_x0, .slice vT_1_A aT_x1.length vT_1_c] 45)) (.cells #[.bool aU_x0, .slice vU_1_A aU_x1.length vU_1_c] 45)
    have y2 := size_alloc' (w.alloc (.cells #[.bool aT_x0, .slice vT_1_A aT_x1.length vT_1_c] 45)) (.cells #[.bool aU_x0, .slice vU_1_A aU_x1.length vU_1_c] 45)
    replace b1 := b1.below hb2
    replace A := A.trans (hb2.mono A.size)
    have z2 := hb2.size
    have b2 := Bk.new (w.alloc (.cells #[.bool aT_x0, .slice vT_1_A aT_x1.length vT_1_c] 45)) #[.bool aU_x0, .slice vU_1_A aU_x1.length vU_1_c] 45
    rw [show (w.alloc (.cells #[.bool aT_x0, .slice vT_1_A aT_x1.length vT_1_c] 45)).heap.size = w.heap.size + 1 by simp] at b2
    clear hb2
    have b1s := b1.1
    have b1c := b1.2
    have b2s := b2.1
    have b2c := b2.2
    go_wp2_with fail
    clear b1s b1c b2s b2c
    refine (u_sz_Trace aT_x0 _ aT_x1 _ _ (hT_1.below A) (by omega)).mono ?_
    rintro e w3 ⟨rfl, hb⟩
    replace b1 := b1.below hb
    replace b2 := b2.below hb
    replace A := A.trans (hb.mono A.size)
    have z3 := hb.size
    clear hb
    rw [szL_pos (by omega)]
    have b1s := b1.1
    have b1c := b1.2
    have b2s := b2.1
    have b2c := b2.2
    go_wp2_with fail
    clear b1s b1c b2s b2c
    refine (u_sz_Trace aU_x0 _ aU_x1 _ _ (hU_1.below A) (by omega)).mono ?_
    rintro e w4 ⟨rfl, hb⟩
    replace b1 := b1.below hb
    replace b2 := b2.below hb
    replace A := A.trans (hb.mono A.size)
    have z4 := hb.size
    clear hb
    rw [szL_neg (by omega)]
    have b1s := b1.1
    have b1c := b1.2
    have b2s := b2.1
    have b2c := b2.2
    have BB := Lib.hid A; clear A
    go_wp2
    go_ret
    exact ⟨rfl, BB.out⟩
  have HS := Lib.hid (HS.out (by omega))
  have HI := Lib.hid (HI.out (by omega))
  obtain ⟨vT_1_A, vT_1_c, rfl⟩ := hT_1.opn
  obtain ⟨vU_1_A, vU_1_c, rfl⟩ := hU_1.opn
  have A := Below.refl w.heap.size w
  go_enter Try.func5, Try.ntmps5
  have hb1 := below_alloc' w (.cells #[.bool aT_x0, .slice vT_1_A aT_x1.length vT_1_c] 45)
  have y1 := size_alloc' w (.cells #[.bool aT_x0, .slice vT_1_A aT_x1.length vT_1_c] 45)
  replace A := A.trans (hb1.mono A.size)
  have z1 := hb1.size
  have b1 := Bk.new w #[.bool aT_x0, .slice vT_1_A aT_x1.length vT_1_c] 45
  clear hb1
  have hb2 := below_alloc' (w.alloc (.cells #[.bool aT_x0, .slice vT_1_A aT_x1.length vT_1_c] 45)) (.cells #[.bool aU_x0, .slice vU_1_A aU_x1.length vU_1_c] 45)
  have y2 := size_alloc' (w.alloc (.cells #[.bool aT_x0, .slice vT_1_A aT_x1.length vT_1_c] 45)) (.cells #[.bool aU_x0, .slice vU_1_A aU_x1.length vU_1_c] 45)
  replace b1 := b1.below hb2
  replace A := A.trans (hb2.mono A.size)
  have z2 := hb2.size
  have b2 := Bk.new (w.alloc (.cells #[.bool aT_x0, .slice vT_1_A aT_x1.length vT_1_c] 45)) #[.bool aU_x0, .slice vU_1_A aU_x1.length vU_1_c] 45
  rw [show (w.alloc (.cells #[.bool aT_x0, .slice vT_1_A aT_x1.length vT_1_c] 45)).heap.size = w.heap.size + 1 by simp] at b2
  clear hb2
  have b1s := b1.1
  have b1c := b1.2
  have b2s := b2.1
  have b2c := b2.2
  go_wp2_with fail
  clear b1s b1c b2s b2c
  refine (u_sz_Trace aT_x0 _ aT_x1 _ _ (hT_1.below A) (by omega)).mono ?_
  rintro e w3 ⟨rfl, hb⟩
  replace b1 := b1.below hb
  replace b2 := b2.below hb
  replace A := A.trans (hb.mono A.size)
  have z3 := hb.size
  clear hb
  rw [szL_pos (by omega)]
  have b1s := b1.1
  have b1c := b1.2
  have b2s := b2.1
  have b2c := b2.2
  go_wp2_with fail
  clear b1s b1c b2s b2c
  refine (u_sz_Trace aU_x0 _ aU_x1 _ _ (hU_1.below A) (by omega)).mono ?_
  rintro e w4 ⟨rfl, hb⟩
  replace b1 := b1.below hb
  replace b2 := b2.below hb
  replace A := A.trans (hb.mono A.size)
  have z4 := hb.size
  clear hb
  rw [szL_pos (by omega)]
  have b1s := b1.1
  have b1c := b1.2
  have b2s := b2.1
  have b2c := b2.2
  go_wp2_with fail
  clear b1s b1c b2s b2c
  have cT_0 : w4.cell? ⟨w.heap.size, 0, none⟩ = some (.bool aT_x0) := b1.2 0
  have cT_1 : w4.cell? ⟨w.heap.size, 1, none⟩ = some (.slice vT_1_A aT_x1.length vT_1_c) := b1.2 1
  have lT := b1.1
  have cU_0 : w4.cell? ⟨w.heap.size + 1, 0, none⟩ = some (.bool aU_x0) := b2.2 0
  have cU_1 : w4.cell? ⟨w.heap.size + 1, 1, none⟩ = some (.slice vU_1_A aU_x1.length vU_1_c) := b2.2 1
  have lU := b2.1
  have hGP : ∀ w w' cs, (fun X cs => ∃ r0_1 : Value, cs = #[.bool r0_x0, r0_1] ∧ Ow cI 2 w4.heap.size X r0_1 r0_x1) w cs → (RB (w4.heap.size) 47 (fun X cs => ∃ r0_1 : Value, cs = #[.bool r0_x0, r0_1] ∧ Ow cI 2 w4.heap.size X r0_1 r0_x1)) w w' → (fun X cs => ∃ r0_1 : Value, cs = #[.bool r0_x0, r0_1] ∧ Ow cI 2 w4.heap.size X r0_1 r0_x1) w' cs := fun _ _ _ ⟨xr0_1, h0, yr0_1⟩ hR => ⟨_, h0, yr0_1.rb hR (by decide)⟩
  refine wp_region_relyR (RB.steps hGP) ((RB (w4.heap.size) 47 (fun X cs => ∃ r0_1 : Value, cs = #[.bool r0_x0, r0_1] ∧ Ow cI 2 w4.heap.size X r0_1 r0_x1)) w4) [fun _ v _ => v = .agg #[.bool aT_x0, .slice vT_1_A aT_x1.length vT_1_c],
    fun _ v X => ∃ u1 : Value, v = .agg #[.bool aT_x0, u1] ∧ Ow cI 2 0 X u1 aT_x1,
    fun _ v _ => v = .agg #[.bool aU_x0, .slice vU_1_A aU_x1.length vU_1_c],
    fun _ v X => ∃ u1 : Value, v = .agg #[.bool aU_x0, u1] ∧ Ow cI 2 0 X u1 aU_x1,
    fun _ v X => ∃ r0_1 : Value, v = .tuple #[.agg #[.bool r0_x0, r0_1], .int .i64 r1_x0] ∧ Ow cI 2 w4.heap.size X r0_1 r0_x1,
    fun _ v X => ∃ r0_1 : Value, v = .tuple #[.agg #[.bool r0_x0, r0_1], .int .i64 r1_x0] ∧ Ow cI 2 w4.heap.size X r0_1 r0_x1,
    fun _ v X => ∃ r0_1 : Value, v = .agg #[.bool r0_x0, r0_1] ∧ Ow cI 2 w4.heap.size X r0_1 r0_x1,
    fun _ v _ => v = .int .i64 r1_x0,
    fun _ v X => ∃ g, v = .pointer (some ⟨g, 0, none⟩) ∧ w4.heap.size ≤ g ∧ ∃ cs : Array Value, cs.size = 2 ∧ Blk X g 47 cs,
    fun q _ X => ∀ g z, q = [.pointer (some ⟨g, 0, none⟩), z] → ∃ cs, (fun X cs => ∃ r0_1 : Value, cs = #[.bool r0_x0, r0_1] ∧ Ow cI 2 w4.heap.size X r0_1 r0_x1) X cs ∧ Blk X g 47 cs,
    fun _ v _ => v = .int .i64 r1_x0]
      [] [(some 28, []), (some 29, [(0, some 28)]), (some 30, []), (some 31, [(2, some 30)]), (some 32, [(1, some 29), (3, some 31)]), (some 27, [(4, some 32)]), (some 33, [(5, some 27)]), (some 34, [(5, some 27)]), (some 6, []), (none, [(8, some 6), (6, some 33)]), (some 7, [(7, some 34)])] 119 (by kernel_rfl) (by kernel_rfl) rfl (RB.of_below ((Below.refl _ _).drew)) (fun X Y h hb => (RB.steps hGP).trans _ _ _ h hb) ?st5 ?en5
  case st5 =>
    refine stepsR_cons ?_ (stepsR_cons ?_ (stepsR_cons ?_ (stepsR_cons ?_ (stepsR_cons ?_ (stepsR_cons ?_ (stepsR_cons ?_ (stepsR_cons ?_ (stepsR_cons ?_ (stepsR_cons ?_ (stepsR_cons ?_ stepsR_nil))))))))))
    · intro X hX
      have cT_0' := ((hX.lowBelow (Nat.le_refl _) (Nat.le_refl _)).cell (p := ⟨w.heap.size, 0, none⟩) lT).trans cT_0
      have cT_1' := ((hX.lowBelow (Nat.le_refl _) (Nat.le_refl _)).cell (p := ⟨w.heap.size, 1, none⟩) lT).trans cT_1
      refine stepR_of rfl ?_
      intro K hK
      go_simp
      exact hK _ _ (RB.of_below (Below.refl _ _)) rfl (fun h => absurd rfl h) rfl
    · intro X hX v0 f0
      obtain ⟨q0, X0, hX0, rfl⟩ := f0
      refine stepR_of rfl ?_
      intro K hK
      go_simp
      refine (u_to_Trace aT_x0 _ aT_x1 _ (hT_1.below (A.trans ((hX.below (Nat.le_refl _)).mono A.size))) (by omega)).mono ?_
      rintro e X5 ⟨u1, rfl, o0, hb⟩
      exact hK _ _ (RB.of_below hb) ⟨_, rfl, o0.1.mono (Nat.zero_le _)⟩ (fun h => absurd rfl h) rfl
    · intro X hX
      have cU_0' := ((hX.lowBelow (Nat.le_refl _) (Nat.le_refl _)).cell (p := ⟨w.heap.size + 1, 0, none⟩) lU).trans cU_0
      have cU_1' := ((hX.lowBelow (Nat.le_refl _) (Nat.le_refl _)).cell (p := ⟨w.heap.size + 1, 1, none⟩) lU).trans cU_1
      refine stepR_of rfl ?_
      intro K hK
      go_simp
      exact hK _ _ (RB.of_below (Below.refl _ _)) rfl (fun h => absurd rfl h) rfl
    · intro X hX v0 f0
      obtain ⟨q0, X0, hX0, rfl⟩ := f0
      refine stepR_of rfl ?_
      intro K hK
      go_simp
      refine (u_to_Trace aU_x0 _ aU_x1 _ (hU_1.below (A.trans ((hX.below (Nat.le_refl _)).mono A.size))) (by omega)).mono ?_
      rintro e X5 ⟨u1, rfl, o0, hb⟩
      exact hK _ _ (RB.of_below hb) ⟨_, rfl, o0.1.mono (Nat.zero_le _)⟩ (fun h => absurd rfl h) rfl
    · intro X hX v0 f0 v1 f1
      obtain ⟨q0, X0, hX0, p0_0, rfl, s0_0⟩ := f0
      obtain ⟨q1, X1, hX1, p1_0, rfl, s1_0⟩ := f1
      refine stepR_of rfl ?_
      intro K hK
      go_simp
      refine (HS.out X _ _ (s0_0.rb hX0 (by decide)).sl (s1_0.rb hX1 (by decide)).sl).mono ?_
      rintro e X9 ⟨r0_1, rfl, or0_1, hb⟩
      obtain ⟨Ar0_1, cr0_1, rfl⟩ := or0_1.opn
      exact hK _ _ (RB.of_below hb) ⟨_, rfl, or0_1.1.mono hX.size⟩ (fun h => absurd rfl h) rfl
    · intro X hX v0 f0
      obtain ⟨q0, X0, hX0, r0_1, rfl, or0_1⟩ := f0
      obtain ⟨Ar0_1, cr0_1, rfl⟩ := or0_1.opn
      replace or0_1 := or0_1.rb hX0 (by decide)
      refine stepR_of rfl ?_
      intro K hK
      go_simp
      exact hK _ _ (RB.of_below (Below.refl _ _)) ⟨_, rfl, or0_1⟩ (fun h => absurd rfl h) rfl
    · intro X hX v0 f0
      obtain ⟨q0, X0, hX0, r0_1, rfl, or0_1⟩ := f0
      obtain ⟨Ar0_1, cr0_1, rfl⟩ := or0_1.opn
      replace or0_1 := or0_1.rb hX0 (by decide)
      refine stepR_of rfl ?_
      intro K hK
      go_simp
      exact hK _ _ (RB.of_below (Below.refl _ _)) ⟨_, rfl, or0_1⟩ (fun h => absurd rfl h) rfl
    · intro X hX v0 f0
      obtain ⟨q0, X0, hX0, r0_1, rfl, or0_1⟩ := f0
      obtain ⟨Ar0_1, cr0_1, rfl⟩ := or0_1.opn
      replace or0_1 := or0_1.rb hX0 (by decide)
      refine stepR_of rfl ?_
      intro K hK
      go_simp
      exact hK _ _ (RB.of_below (Below.refl _ _)) rfl (fun h => absurd rfl h) rfl
    · intro X hX
      refine stepR_of rfl ?_
      intro K hK
      go_simp
      exact hK _ _ (RB.of_below (below_alloc' X _)) ⟨X.heap.size, rfl, hX.size, _, rfl, Blk.new X _ _⟩ (fun h => absurd rfl h) rfl
    · intro X hX v0 f0 v1 f1
      obtain ⟨q0, X0, hX0, g, rfl, hg, hbx⟩ := f0
      obtain ⟨q1, X1, hX1, r0_1, rfl, or0_1⟩ := f1
      obtain ⟨cs, hcs, hk⟩ := hX0.box hbx
      obtain ⟨z0, z1, rfl⟩ := arr2 hcs
      obtain ⟨Ar0_1, cr0_1, rfl⟩ := or0_1.opn
      replace or0_1 := or0_1.rb hX1 (by decide)
      have nr0_1 := hk.ne_own or0_1 (by decide)
      have kc := hk.cell; have kf := hk.frozen; have kl := hk.lt
      refine stepR_of rfl ?_
      intro K hK
      go_simp
      refine hK _ _ (RB.fill hg hk ((hk.set_ 0 _).set_ 1 _) rfl ?gp (fun k hkk => (Below.heap_setCell _ _ _ k hkk).trans (Below.heap_setCell _ _ _ k hkk)) (by simp [World.setCell]) rfl rfl rfl) (fun g' z h => ?_) (fun h => absurd rfl h) rfl
      case gp => exact ⟨_, rfl, ((or0_1.far nr0_1 _).far nr0_1 _)⟩
      simp only [List.nil_append, List.cons_append, List.cons.injEq, Value.pointer.injEq, Option.some.injEq, Addr.mk.injEq, and_true, true_and] at h
      obtain ⟨h1, -⟩ := h
      subst h1
      exact ⟨_, ⟨_, rfl, ((or0_1.far nr0_1 _).far nr0_1 _)⟩, ((hk.set_ 0 _).set_ 1 _)⟩
    · intro X hX v0 f0
      obtain ⟨q0, X0, hX0, rfl⟩ := f0
      refine stepR_of rfl ?_
      intro K hK
      go_simp
      exact hK _ _ (RB.of_below (Below.refl _ _)) rfl (fun h => absurd rfl h) rfl
  intro w5 hX v0 f0 v1 f1 v2 f2 v3 f3 v4 f4 v5 f5 v6 f6 v7 f7 v8 f8 v9 f9 v10 f10 hsep
  obtain ⟨_, _, g5, rfl, hg5, -⟩ := f8
  obtain ⟨_, hXs, hs⟩ := f9
  obtain ⟨cs, ⟨r0_1, rfl, or0_1⟩, hk5⟩ := hXs.good hGP (hs _ _ rfl)
  obtain ⟨_, _, rfl⟩ := f7
  obtain ⟨_, _, rfl⟩ := f10
  obtain ⟨Ar0_1_5, cr0_1_5, rfl⟩ := or0_1.opn
  have p5_r0_1 := or0_1.ob
  have b5 : Bk w5 g5 #[.bool r0_x0, .slice Ar0_1_5 r0_x1.length cr0_1_5] := ⟨hk5.lt, hk5.cell⟩
  have hI := hX.below (Nat.le_refl _)
  clear hsep hX hXs hs hGP hk5 or0_1 f0 f1 f2 f3 f4 f5 f6
  clear cT_0 cT_1 cU_0 cU_1 lT lU
  simp only [List.length_cons, List.length_nil, List.drop_succ_cons, List.drop_zero, List.drop_nil]
  replace b1 := b1.below hI
  replace b2 := b2.below hI
  replace A := A.trans (hI.mono A.size)
  have z5 := hI.size
  clear hI
  have g5lt := b5.1
  have b1s := b1.1
  have b1c := b1.2
  have b2s := b2.1
  have b2c := b2.2
  have b5s := b5.1
  have b5c := b5.2
  go_wp2_with fail
  clear b1s b1c b2s b2c b5s b5c
  refine (u_to_Trace aT_x0 _ aT_x1 _ (hT_1.below A) (by omega)).mono ?_
  rintro e w6 ⟨xT_v1, rfl, o6_1, hb⟩
  replace p5_r0_1 := p5_r0_1.below hb
  replace b1 := b1.below hb
  replace b2 := b2.below hb
  replace b5 := b5.below hb
  replace A := A.trans (hb.mono A.size)
  have z6 := hb.size
  clear hb
  obtain ⟨xT_v1_A, xT_v1_c, rfl⟩ := o6_1.opn
  have hb7 := below_alloc' w6 (.cells #[.bool aT_x0, .slice xT_v1_A aT_x1.length xT_v1_c] 47)
  have y7 := size_alloc' w6 (.cells #[.bool aT_x0, .slice xT_v1_A aT_x1.length xT_v1_c] 47)
  replace p5_r0_1 := p5_r0_1.below hb7
  replace o6_1 := o6_1.below hb7
  replace b1 := b1.below hb7
  replace b2 := b2.below hb7
  replace b5 := b5.below hb7
  replace A := A.trans (hb7.mono A.size)
  have z7 := hb7.size
  have b7 := Bk.new w6 #[.bool aT_x0, .slice xT_v1_A aT_x1.length xT_v1_c] 47
  clear hb7
  have b1s := b1.1
  have b1c := b1.2
  have b2s := b2.1
  have b2c := b2.2
  have b5s := b5.1
  have b5c := b5.2
  have b7s := b7.1
  have b7c := b7.2
  go_wp2_with fail
  clear b1s b1c b2s b2c b5s b5c b7s b7c
  refine (u_to_Trace aU_x0 _ aU_x1 _ (hU_1.below A) (by omega)).mono ?_
  rintro e w8 ⟨xU_v1, rfl, o8_1, hb⟩
  replace p5_r0_1 := p5_r0_1.below hb
  replace o6_1 := o6_1.below hb
  replace b1 := b1.below hb
  replace b2 := b2.below hb
  replace b5 := b5.below hb
  replace b7 := b7.below hb
  replace A := A.trans (hb.mono A.size)
  have z8 := hb.size
  clear hb
  obtain ⟨xU_v1_A, xU_v1_c, rfl⟩ := o8_1.opn
  have hb9 := below_alloc' w8 (.cells #[.bool aU_x0, .slice xU_v1_A aU_x1.length xU_v1_c] 47)
  have y9 := size_alloc' w8 (.cells #[.bool aU_x0, .slice xU_v1_A aU_x1.length xU_v1_c] 47)
  replace p5_r0_1 := p5_r0_1.below hb9
  replace o6_1 := o6_1.below hb9
  replace o8_1 := o8_1.below hb9
  replace b1 := b1.below hb9
  replace b2 := b2.below hb9
  replace b5 := b5.below hb9
  replace b7 := b7.below hb9
  replace A := A.trans (hb9.mono A.size)
  have z9 := hb9.size
  have b9 := Bk.new w8 #[.bool aU_x0, .slice xU_v1_A aU_x1.length xU_v1_c] 47
  clear hb9
  have b1s := b1.1
  have b1c := b1.2
  have b2s := b2.1
  have b2c := b2.2
  have b5s := b5.1
  have b5c := b5.2
  have b7s := b7.1
  have b7c := b7.2
  have b9s := b9.1
  have b9c := b9.2
  go_wp2_with fail
  clear b1s b1c b2s b2c b5s b5c b7s b7c b9s b9c
  refine (HI.out _ _ _ o6_1.sl o8_1.sl).mono ?_
  rintro e w10 ⟨g0_v1, rfl, r10_g0_1, hb⟩
  replace p5_r0_1 := p5_r0_1.below hb
  replace o6_1 := o6_1.below hb
  replace o8_1 := o8_1.below hb
  replace b1 := b1.below hb
  replace b2 := b2.below hb
  replace b5 := b5.below hb
  replace b7 := b7.below hb
  replace b9 := b9.below hb
  replace A := A.trans (hb.mono A.size)
  have z10 := hb.size
  clear hb
  obtain ⟨g0_v1_A, g0_v1_c, rfl⟩ := r10_g0_1.opn
  have hb11 := below_alloc' w10 (.cells #[.bool r0_x0, .slice g0_v1_A r0_x1.length g0_v1_c] 47)
  have y11 := size_alloc' w10 (.cells #[.bool r0_x0, .slice g0_v1_A r0_x1.length g0_v1_c] 47)
  replace p5_r0_1 := p5_r0_1.below hb11
  replace o6_1 := o6_1.below hb11
  replace o8_1 := o8_1.below hb11
  replace r10_g0_1 := r10_g0_1.below hb11
  replace b1 := b1.below hb11
  replace b2 := b2.below hb11
  replace b5 := b5.below hb11
  replace b7 := b7.below hb11
  replace b9 := b9.below hb11
  replace A := A.trans (hb11.mono A.size)
  have z11 := hb11.size
  have b11 := Bk.new w10 #[.bool r0_x0, .slice g0_v1_A r0_x1.length g0_v1_c] 47
  clear hb11
  have b1s := b1.1
  have b1c := b1.2
  have b2s := b2.1
  have b2c := b2.2
  have b5s := b5.1
  have b5c := b5.2
  have b7s := b7.1
  have b7c := b7.2
  have b9s := b9.1
  have b9c := b9.2
  have b11s := b11.1
  have b11c := b11.2
  go_wp2_with fail
  clear b1s b1c b2s b2c b5s b5c b7s b7c b9s b9c b11s b11c
  refine (u_eq_Trace r0_x0 _ _ r0_x1 _ r10_g0_1.sl p5_r0_1.sl (by omega)).mono ?_
  rintro e w12 ⟨rfl, hb⟩
  replace p5_r0_1 := p5_r0_1.below hb
  replace o6_1 := o6_1.below hb
  replace o8_1 := o8_1.below hb
  replace r10_g0_1 := r10_g0_1.below hb
  replace b1 := b1.below hb
  replace b2 := b2.below hb
  replace b5 := b5.below hb
  replace b7 := b7.below hb
  replace b9 := b9.below hb
  replace b11 := b11.below hb
  replace A := A.trans (hb.mono A.size)
  have z12 := hb.size
  clear hb
  have b1s := b1.1
  have b1c := b1.2
  have b2s := b2.1
  have b2c := b2.2
  have b5s := b5.1
  have b5c := b5.2
  have b7s := b7.1
  have b7c := b7.2
  have b9s := b9.1
  have b9c := b9.2
  have b11s := b11.1
  have b11c := b11.2
  go_wp2_with fail
  clear b1s b1c b2s b2c b5s b5c b7s b7c b9s b9c b11s b11c
  have hq14_1 := hT_1.below A
  have c0 : w12.cell? ⟨w6.heap.size, 0, none⟩ = some (.bool aT_x0) := b7.2 0
  have c1 : w12.cell? ⟨w6.heap.size, 1, none⟩ = some (.slice xT_v1_A aT_x1.length xT_v1_c) := b7.2 1
  have d0 : w12.cell? ⟨w.heap.size, 0, none⟩ = some (.bool aT_x0) := b1.2 0
  have d1 : w12.cell? ⟨w.heap.size, 1, none⟩ = some (.slice vT_1_A aT_x1.length vT_1_c) := b1.2 1
  go_region_held3 (fun w' => w'.cell? ⟨w6.heap.size, 0, none⟩ = some (.bool aT_x0) ∧ w'.cell? ⟨w6.heap.size, 1, none⟩ = some (.slice xT_v1_A aT_x1.length xT_v1_c) ∧ w'.cell? ⟨w.heap.size, 0, none⟩ = some (.bool aT_x0) ∧ w'.cell? ⟨w.heap.size, 1, none⟩ = some (.slice vT_1_A aT_x1.length vT_1_c)) (first | exact ⟨c0'', c1'', d0'', d1''⟩ | exact ⟨c0', c1', d0', d1'⟩ | exact ⟨c0, c1, d0, d1⟩ | (simp [*]; done)) (first | (go_at_call 27; refine (u_to_Trace aT_x0 _ aT_x1 _ (hq14_1.below (below_drewN (Below.refl _ _) 1)) (by omega)).mono ?_; rintro e w13 ⟨y14_1, rfl, oy14_1, hbP⟩; obtain ⟨y14_1_A, y14_1_c, rfl⟩ := oy14_1.opn; have hbP1 : Below w12.heap.size w12 w13 := (below_drewN (Below.refl _ _) 1).trans hbP; have c0' := (hbP1.cell (p := ⟨w6.heap.size, 0, none⟩) b7.1).trans c0; have c1' := (hbP1.cell (p := ⟨w6.heap.size, 1, none⟩) b7.1).trans c1; have d0' := (hbP1.cell (p := ⟨w.heap.size, 0, none⟩) b1.1).trans d0; have d1' := (hbP1.cell (p := ⟨w.heap.size, 1, none⟩) b1.1).trans d1) | (go_at_call 29; refine (u_eq_Trace aT_x0 _ _ aT_x1 _ (o6_1.below hbP1).sl oy14_1.sl (by omega)).mono ?_; rintro e w14 ⟨rfl, hbQ⟩; have c0'' := (hbQ.cell (p := ⟨w6.heap.size, 0, none⟩) (b7.below hbP1).1).trans c0'; have c1'' := (hbQ.cell (p := ⟨w6.heap.size, 1, none⟩) (b7.below hbP1).1).trans c1'; have d0'' := (hbQ.cell (p := ⟨w.heap.size, 0, none⟩) (b1.below hbP1).1).trans d0'; have d1'' := (hbQ.cell (p := ⟨w.heap.size, 1, none⟩) (b1.below hbP1).1).trans d1'))
  have hb := bthen hbP1 hbQ
  clear c0'' c0' c0 c1'' c1' c1 d0'' d0' d0 d1'' d1' d1
  clear hbP hbQ hbP1 oy14_1
  clear hq14_1
  replace p5_r0_1 := p5_r0_1.below hb
  replace o6_1 := o6_1.below hb
  replace o8_1 := o8_1.below hb
  replace r10_g0_1 := r10_g0_1.below hb
  replace b1 := b1.below hb
  replace b2 := b2.below hb
  replace b5 := b5.below hb
  replace b7 := b7.below hb
  replace b9 := b9.below hb
  replace b11 := b11.below hb
  replace A := A.trans (hb.mono A.size)
  have z14 := hb.size
  clear hb
  have b1s := b1.1
  have b1c := b1.2
  have b2s := b2.1
  have b2c := b2.2
  have b5s := b5.1
  have b5c := b5.2
  have b7s := b7.1
  have b7c := b7.2
  have b9s := b9.1
  have b9c := b9.2
  have b11s := b11.1
  have b11c := b11.2
  go_wp2_with fail
  clear b1s b1c b2s b2c b5s b5c b7s b7c b9s b9c b11s b11c
  have hq16_1 := hU_1.below A
  have c0 : w14.cell? ⟨w8.heap.size, 0, none⟩ = some (.bool aU_x0) := b9.2 0
  have c1 : w14.cell? ⟨w8.heap.size, 1, none⟩ = some (.slice xU_v1_A aU_x1.length xU_v1_c) := b9.2 1
  have d0 : w14.cell? ⟨w.heap.size + 1, 0, none⟩ = some (.bool aU_x0) := b2.2 0
  have d1 : w14.cell? ⟨w.heap.size + 1, 1, none⟩ = some (.slice vU_1_A aU_x1.length vU_1_c) := b2.2 1
  go_region_held3 (fun w' => w'.cell? ⟨w8.heap.size, 0, none⟩ = some (.bool aU_x0) ∧ w'.cell? ⟨w8.heap.size, 1, none⟩ = some (.slice xU_v1_A aU_x1.length xU_v1_c) ∧ w'.cell? ⟨w.heap.size + 1, 0, none⟩ = some (.bool aU_x0) ∧ w'.cell? ⟨w.heap.size + 1, 1, none⟩ = some (.slice vU_1_A aU_x1.length vU_1_c)) (first | exact ⟨c0'', c1'', d0'', d1''⟩ | exact ⟨c0', c1', d0', d1'⟩ | exact ⟨c0, c1, d0, d1⟩ | (simp [*]; done)) (first | (go_at_call 27; refine (u_to_Trace aU_x0 _ aU_x1 _ (hq16_1.below (below_drewN (Below.refl _ _) 1)) (by omega)).mono ?_; rintro e w15 ⟨y16_1, rfl, oy16_1, hbP⟩; obtain ⟨y16_1_A, y16_1_c, rfl⟩ := oy16_1.opn; have hbP1 : Below w14.heap.size w14 w15 := (below_drewN (Below.refl _ _) 1).trans hbP; have c0' := (hbP1.cell (p := ⟨w8.heap.size, 0, none⟩) b9.1).trans c0; have c1' := (hbP1.cell (p := ⟨w8.heap.size, 1, none⟩) b9.1).trans c1; have d0' := (hbP1.cell (p := ⟨w.heap.size + 1, 0, none⟩) b2.1).trans d0; have d1' := (hbP1.cell (p := ⟨w.heap.size + 1, 1, none⟩) b2.1).trans d1) | (go_at_call 29; refine (u_eq_Trace aU_x0 _ _ aU_x1 _ (o8_1.below hbP1).sl oy16_1.sl (by omega)).mono ?_; rintro e w16 ⟨rfl, hbQ⟩; have c0'' := (hbQ.cell (p := ⟨w8.heap.size, 0, none⟩) (b9.below hbP1).1).trans c0'; have c1'' := (hbQ.cell (p := ⟨w8.heap.size, 1, none⟩) (b9.below hbP1).1).trans c1'; have d0'' := (hbQ.cell (p := ⟨w.heap.size + 1, 0, none⟩) (b2.below hbP1).1).trans d0'; have d1'' := (hbQ.cell (p := ⟨w.heap.size + 1, 1, none⟩) (b2.below hbP1).1).trans d1'))
  have hb := bthen hbP1 hbQ
  clear c0'' c0' c0 c1'' c1' c1 d0'' d0' d0 d1'' d1' d1
  clear hbP hbQ hbP1 oy16_1
  clear hq16_1
  replace p5_r0_1 := p5_r0_1.below hb
  replace o6_1 := o6_1.below hb
  replace o8_1 := o8_1.below hb
  replace r10_g0_1 := r10_g0_1.below hb
  replace b1 := b1.below hb
  replace b2 := b2.below hb
  replace b5 := b5.below hb
  replace b7 := b7.below hb
  replace b9 := b9.below hb
  replace b11 := b11.below hb
  replace A := A.trans (hb.mono A.size)
  have z16 := hb.size
  clear hb
  have b1s := b1.1
  have b1c := b1.2
  have b2s := b2.1
  have b2c := b2.2
  have b5s := b5.1
  have b5c := b5.2
  have b7s := b7.1
  have b7c := b7.2
  have b9s := b9.1
  have b9c := b9.2
  have b11s := b11.1
  have b11c := b11.2
  go_wp2_with fail
  clear b1s b1c b2s b2c b5s b5c b7s b7c b9s b9c b11s b11c
  refine (u_mark_Trace aT_x0 _ aT_x1 _ _ _ _ o6_1 (by omega) (by omega)).mono ?_
  rintro e w17 ⟨rfl, no6_1, hk⟩
  replace p5_r0_1 := p5_r0_1.keep hk (by omega)
  replace o8_1 := o8_1.keep hk (by omega)
  replace r10_g0_1 := r10_g0_1.keep hk (by omega)
  clear o6_1; have o6_1 := no6_1; clear no6_1
  replace b1 := b1.keep hk (by omega)
  replace b2 := b2.keep hk (by omega)
  replace b5 := b5.keep hk (by omega)
  replace b7 := b7.keep hk (by omega)
  replace b9 := b9.keep hk (by omega)
  replace b11 := b11.keep hk (by omega)
  replace A := below_keep A hk (by omega) A.size
  have z17 := hk.size
  clear hk
  have b1s := b1.1
  have b1c := b1.2
  have b2s := b2.1
  have b2c := b2.2
  have b5s := b5.1
  have b5c := b5.2
  have b7s := b7.1
  have b7c := b7.2
  have b9s := b9.1
  have b9c := b9.2
  have b11s := b11.1
  have b11c := b11.2
  go_wp2_with fail
  clear b1s b1c b2s b2c b5s b5c b7s b7c b9s b9c b11s b11c
  refine (u_mark_Trace aU_x0 _ aU_x1 _ _ _ _ o8_1 (by omega) (by omega)).mono ?_
  rintro e w18 ⟨rfl, no8_1, hk⟩
  replace p5_r0_1 := p5_r0_1.keep hk (by omega)
  replace o6_1 := o6_1.keep hk (by omega)
  replace r10_g0_1 := r10_g0_1.keep hk (by omega)
  clear o8_1; have o8_1 := no8_1; clear no8_1
  replace b1 := b1.keep hk (by omega)
  replace b2 := b2.keep hk (by omega)
  replace b5 := b5.keep hk (by omega)
  replace b7 := b7.keep hk (by omega)
  replace b9 := b9.keep hk (by omega)
  replace b11 := b11.keep hk (by omega)
  replace A := below_keep A hk (by omega) A.size
  have z18 := hk.size
  clear hk
  have b1s := b1.1
  have b1c := b1.2
  have b2s := b2.1
  have b2c := b2.2
  have b5s := b5.1
  have b5c := b5.2
  have b7s := b7.1
  have b7c := b7.2
  have b9s := b9.1
  have b9c := b9.2
  have b11s := b11.1
  have b11c := b11.2
  go_wp2_with fail
  clear b1s b1c b2s b2c b5s b5c b7s b7c b9s b9c b11s b11c
  refine (u_eq_Trace r0_x0 _ _ r0_x1 _ r10_g0_1.sl p5_r0_1.sl (by omega)).mono ?_
  rintro e w19 ⟨rfl, hb⟩
  replace p5_r0_1 := p5_r0_1.below hb
  replace o6_1 := o6_1.below hb
  replace o8_1 := o8_1.below hb
  replace r10_g0_1 := r10_g0_1.below hb
  replace b1 := b1.below hb
  replace b2 := b2.below hb
  replace b5 := b5.below hb
  replace b7 := b7.below hb
  replace b9 := b9.below hb
  replace b11 := b11.below hb
  replace A := A.trans (hb.mono A.size)
  have z19 := hb.size
  clear hb
  clear o6_1
  clear o8_1
  have b1s := b1.1
  have b1c := b1.2
  have b2s := b2.1
  have b2c := b2.2
  have b5s := b5.1
  have b5c := b5.2
  have b7s := b7.1
  have b7c := b7.2
  have b9s := b9.1
  have b9c := b9.2
  have b11s := b11.1
  have b11c := b11.2
  go_wp2_with fail
  clear b1s b1c b2s b2c b5s b5c b7s b7c b9s b9c b11s b11c
  refine (u_mark_Trace r0_x0 _ r0_x1 _ _ _ _ r10_g0_1 (by omega) (by omega)).mono ?_
  rintro e w20 ⟨rfl, nr10_g0_1, hk⟩
  replace p5_r0_1 := p5_r0_1.keep hk (by omega)
  clear r10_g0_1; have r10_g0_1 := nr10_g0_1; clear nr10_g0_1
  replace b1 := b1.keep hk (by omega)
  replace b2 := b2.keep hk (by omega)
  replace b5 := b5.keep hk (by omega)
  replace b7 := b7.keep hk (by omega)
  replace b9 := b9.keep hk (by omega)
  replace b11 := b11.keep hk (by omega)
  replace A := below_keep A hk (by omega) A.size
  have z20 := hk.size
  clear hk
  have b1s := b1.1
  have b1c := b1.2
  have b2s := b2.1
  have b2c := b2.2
  have b5s := b5.1
  have b5c := b5.2
  have b7s := b7.1
  have b7c := b7.2
  have b9s := b9.1
  have b9c := b9.2
  have b11s := b11.1
  have b11c := b11.2
  go_wp2_with fail
  clear b1s b1c b2s b2c b5s b5c b7s b7c b9s b9c b11s b11c
  refine (u_held_Trace r0_x0 _ r0_x1.length _ _ r10_g0_1.sl (by omega) (by omega)).mono ?_
  rintro e w21 ⟨rfl, hb⟩
  replace p5_r0_1 := p5_r0_1.below hb
  replace r10_g0_1 := r10_g0_1.below hb
  replace b1 := b1.below hb
  replace b2 := b2.below hb
  replace b5 := b5.below hb
  replace b7 := b7.below hb
  replace b9 := b9.below hb
  replace b11 := b11.below hb
  replace A := A.trans (hb.mono A.size)
  have z21 := hb.size
  clear hb
  have b1s := b1.1
  have b1c := b1.2
  have b2s := b2.1
  have b2c := b2.2
  have b5s := b5.1
  have b5c := b5.2
  have b7s := b7.1
  have b7c := b7.2
  have b9s := b9.1
  have b9c := b9.2
  have b11s := b11.1
  have b11c := b11.2
  go_wp2_with fail
  clear b1s b1c b2s b2c b5s b5c b7s b7c b9s b9c b11s b11c
  have cT_0 : w21.cell? ⟨w.heap.size, 0, none⟩ = some (.bool aT_x0) := b1.2 0
  have cT_1 : w21.cell? ⟨w.heap.size, 1, none⟩ = some (.slice vT_1_A aT_x1.length vT_1_c) := b1.2 1
  have lT := b1.1
  have cU_0 : w21.cell? ⟨w.heap.size + 1, 0, none⟩ = some (.bool aU_x0) := b2.2 0
  have cU_1 : w21.cell? ⟨w.heap.size + 1, 1, none⟩ = some (.slice vU_1_A aU_x1.length vU_1_c) := b2.2 1
  have lU := b2.1
  have hGP : ∀ w w' cs, (fun X cs => ∃ r0_1 : Value, cs = #[.bool r0_x0, r0_1] ∧ Ow cI 2 w21.heap.size X r0_1 r0_x1) w cs → (RB (w21.heap.size) 47 (fun X cs => ∃ r0_1 : Value, cs = #[.bool r0_x0, r0_1] ∧ Ow cI 2 w21.heap.size X r0_1 r0_x1)) w w' → (fun X cs => ∃ r0_1 : Value, cs = #[.bool r0_x0, r0_1] ∧ Ow cI 2 w21.heap.size X r0_1 r0_x1) w' cs := fun _ _ _ ⟨xr0_1, h0, yr0_1⟩ hR => ⟨_, h0, yr0_1.rb hR (by decide)⟩
  refine wp_region_relyR (RB.steps hGP) ((RB (w21.heap.size) 47 (fun X cs => ∃ r0_1 : Value, cs = #[.bool r0_x0, r0_1] ∧ Ow cI 2 w21.heap.size X r0_1 r0_x1)) w21) [fun _ v _ => v = .agg #[.bool aT_x0, .slice vT_1_A aT_x1.length vT_1_c],
    fun _ v X => ∃ u1 : Value, v = .agg #[.bool aT_x0, u1] ∧ Ow cI 2 0 X u1 aT_x1,
    fun _ v _ => v = .agg #[.bool aU_x0, .slice vU_1_A aU_x1.length vU_1_c],
    fun _ v X => ∃ u1 : Value, v = .agg #[.bool aU_x0, u1] ∧ Ow cI 2 0 X u1 aU_x1,
    fun _ v X => ∃ r0_1 : Value, v = .tuple #[.agg #[.bool r0_x0, r0_1], .int .i64 r1_x0] ∧ Ow cI 2 w21.heap.size X r0_1 r0_x1,
    fun _ v X => ∃ r0_1 : Value, v = .tuple #[.agg #[.bool r0_x0, r0_1], .int .i64 r1_x0] ∧ Ow cI 2 w21.heap.size X r0_1 r0_x1,
    fun _ v X => ∃ r0_1 : Value, v = .agg #[.bool r0_x0, r0_1] ∧ Ow cI 2 w21.heap.size X r0_1 r0_x1,
    fun _ v _ => v = .int .i64 r1_x0,
    fun _ v X => ∃ g, v = .pointer (some ⟨g, 0, none⟩) ∧ w21.heap.size ≤ g ∧ ∃ cs : Array Value, cs.size = 2 ∧ Blk X g 47 cs,
    fun q _ X => ∀ g z, q = [.pointer (some ⟨g, 0, none⟩), z] → ∃ cs, (fun X cs => ∃ r0_1 : Value, cs = #[.bool r0_x0, r0_1] ∧ Ow cI 2 w21.heap.size X r0_1 r0_x1) X cs ∧ Blk X g 47 cs,
    fun _ v _ => v = .int .i64 r1_x0]
      [] [(some 95, []), (some 96, [(0, some 95)]), (some 97, []), (some 98, [(2, some 97)]), (some 99, [(1, some 96), (3, some 98)]), (some 94, [(4, some 99)]), (some 100, [(5, some 94)]), (some 101, [(5, some 94)]), (some 15, []), (none, [(8, some 15), (6, some 100)]), (some 16, [(7, some 101)])] 119 (by kernel_rfl) (by kernel_rfl) rfl (RB.of_below ((Below.refl _ _).drew)) (fun X Y h hb => (RB.steps hGP).trans _ _ _ h hb) ?st22 ?en22
  case st22 =>
    refine stepsR_cons ?_ (stepsR_cons ?_ (stepsR_cons ?_ (stepsR_cons ?_ (stepsR_cons ?_ (stepsR_cons ?_ (stepsR_cons ?_ (stepsR_cons ?_ (stepsR_cons ?_ (stepsR_cons ?_ (stepsR_cons ?_ stepsR_nil))))))))))
    · intro X hX
      have cT_0' := ((hX.lowBelow (Nat.le_refl _) (Nat.le_refl _)).cell (p := ⟨w.heap.size, 0, none⟩) lT).trans cT_0
      have cT_1' := ((hX.lowBelow (Nat.le_refl _) (Nat.le_refl _)).cell (p := ⟨w.heap.size, 1, none⟩) lT).trans cT_1
      refine stepR_of rfl ?_
      intro K hK
      go_simp
      exact hK _ _ (RB.of_below (Below.refl _ _)) rfl (fun h => absurd rfl h) rfl
    · intro X hX v0 f0
      obtain ⟨q0, X0, hX0, rfl⟩ := f0
      refine stepR_of rfl ?_
      intro K hK
      go_simp
      refine (u_to_Trace aT_x0 _ aT_x1 _ (hT_1.below (A.trans ((hX.below (Nat.le_refl _)).mono A.size))) (by omega)).mono ?_
      rintro e X5 ⟨u1, rfl, o0, hb⟩
      exact hK _ _ (RB.of_below hb) ⟨_, rfl, o0.1.mono (Nat.zero_le _)⟩ (fun h => absurd rfl h) rfl
    · intro X hX
      have cU_0' := ((hX.lowBelow (Nat.le_refl _) (Nat.le_refl _)).cell (p := ⟨w.heap.size + 1, 0, none⟩) lU).trans cU_0
      have cU_1' := ((hX.lowBelow (Nat.le_refl _) (Nat.le_refl _)).cell (p := ⟨w.heap.size + 1, 1, none⟩) lU).trans cU_1
      refine stepR_of rfl ?_
      intro K hK
      go_simp
      exact hK _ _ (RB.of_below (Below.refl _ _)) rfl (fun h => absurd rfl h) rfl
    · intro X hX v0 f0
      obtain ⟨q0, X0, hX0, rfl⟩ := f0
      refine stepR_of rfl ?_
      intro K hK
      go_simp
      refine (u_to_Trace aU_x0 _ aU_x1 _ (hU_1.below (A.trans ((hX.below (Nat.le_refl _)).mono A.size))) (by omega)).mono ?_
      rintro e X5 ⟨u1, rfl, o0, hb⟩
      exact hK _ _ (RB.of_below hb) ⟨_, rfl, o0.1.mono (Nat.zero_le _)⟩ (fun h => absurd rfl h) rfl
    · intro X hX v0 f0 v1 f1
      obtain ⟨q0, X0, hX0, p0_0, rfl, s0_0⟩ := f0
      obtain ⟨q1, X1, hX1, p1_0, rfl, s1_0⟩ := f1
      refine stepR_of rfl ?_
      intro K hK
      go_simp
      refine (HI.out X _ _ (s0_0.rb hX0 (by decide)).sl (s1_0.rb hX1 (by decide)).sl).mono ?_
      rintro e X9 ⟨r0_1, rfl, or0_1, hb⟩
      obtain ⟨Ar0_1, cr0_1, rfl⟩ := or0_1.opn
      exact hK _ _ (RB.of_below hb) ⟨_, rfl, or0_1.1.mono hX.size⟩ (fun h => absurd rfl h) rfl
    · intro X hX v0 f0
      obtain ⟨q0, X0, hX0, r0_1, rfl, or0_1⟩ := f0
      obtain ⟨Ar0_1, cr0_1, rfl⟩ := or0_1.opn
      replace or0_1 := or0_1.rb hX0 (by decide)
      refine stepR_of rfl ?_
      intro K hK
      go_simp
      exact hK _ _ (RB.of_below (Below.refl _ _)) ⟨_, rfl, or0_1⟩ (fun h => absurd rfl h) rfl
    · intro X hX v0 f0
      obtain ⟨q0, X0, hX0, r0_1, rfl, or0_1⟩ := f0
      obtain ⟨Ar0_1, cr0_1, rfl⟩ := or0_1.opn
      replace or0_1 := or0_1.rb hX0 (by decide)
      refine stepR_of rfl ?_
      intro K hK
      go_simp
      exact hK _ _ (RB.of_below (Below.refl _ _)) ⟨_, rfl, or0_1⟩ (fun h => absurd rfl h) rfl
    · intro X hX v0 f0
      obtain ⟨q0, X0, hX0, r0_1, rfl, or0_1⟩ := f0
      obtain ⟨Ar0_1, cr0_1, rfl⟩ := or0_1.opn
      replace or0_1 := or0_1.rb hX0 (by decide)
      refine stepR_of rfl ?_
      intro K hK
      go_simp
      exact hK _ _ (RB.of_below (Below.refl _ _)) rfl (fun h => absurd rfl h) rfl
    · intro X hX
      refine stepR_of rfl ?_
      intro K hK
      go_simp
      exact hK _ _ (RB.of_below (below_alloc' X _)) ⟨X.heap.size, rfl, hX.size, _, rfl, Blk.new X _ _⟩ (fun h => absurd rfl h) rfl
    · intro X hX v0 f0 v1 f1
      obtain ⟨q0, X0, hX0, g, rfl, hg, hbx⟩ := f0
      obtain ⟨q1, X1, hX1, r0_1, rfl, or0_1⟩ := f1
      obtain ⟨cs, hcs, hk⟩ := hX0.box hbx
      obtain ⟨z0, z1, rfl⟩ := arr2 hcs
      obtain ⟨Ar0_1, cr0_1, rfl⟩ := or0_1.opn
      replace or0_1 := or0_1.rb hX1 (by decide)
      have nr0_1 := hk.ne_own or0_1 (by decide)
      have kc := hk.cell; have kf := hk.frozen; have kl := hk.lt
      refine stepR_of rfl ?_
      intro K hK
      go_simp
      refine hK _ _ (RB.fill hg hk ((hk.set_ 0 _).set_ 1 _) rfl ?gp (fun k hkk => (Below.heap_setCell _ _ _ k hkk).trans (Below.heap_setCell _ _ _ k hkk)) (by simp [World.setCell]) rfl rfl rfl) (fun g' z h => ?_) (fun h => absurd rfl h) rfl
      case gp => exact ⟨_, rfl, ((or0_1.far nr0_1 _).far nr0_1 _)⟩
      simp only [List.nil_append, List.cons_append, List.cons.injEq, Value.pointer.injEq, Option.some.injEq, Addr.mk.injEq, and_true, true_and] at h
      obtain ⟨h1, -⟩ := h
      subst h1
      exact ⟨_, ⟨_, rfl, ((or0_1.far nr0_1 _).far nr0_1 _)⟩, ((hk.set_ 0 _).set_ 1 _)⟩
    · intro X hX v0 f0
      obtain ⟨q0, X0, hX0, rfl⟩ := f0
      refine stepR_of rfl ?_
      intro K hK
      go_simp
      exact hK _ _ (RB.of_below (Below.refl _ _)) rfl (fun h => absurd rfl h) rfl
  intro w22 hX v0 f0 v1 f1 v2 f2 v3 f3 v4 f4 v5 f5 v6 f6 v7 f7 v8 f8 v9 f9 v10 f10 hsep
  obtain ⟨_, _, g22, rfl, hg22, -⟩ := f8
  obtain ⟨_, hXs, hs⟩ := f9
  obtain ⟨cs, ⟨r0_1, rfl, or0_1⟩, hk22⟩ := hXs.good hGP (hs _ _ rfl)
  obtain ⟨_, _, rfl⟩ := f7
  obtain ⟨_, _, rfl⟩ := f10
  obtain ⟨Ar0_1_22, cr0_1_22, rfl⟩ := or0_1.opn
  have p22_r0_1 := or0_1.ob
  have b22 : Bk w22 g22 #[.bool r0_x0, .slice Ar0_1_22 r0_x1.length cr0_1_22] := ⟨hk22.lt, hk22.cell⟩
  have hI := hX.below (Nat.le_refl _)
  clear hsep hX hXs hs hGP hk22 or0_1 f0 f1 f2 f3 f4 f5 f6
  clear cT_0 cT_1 cU_0 cU_1 lT lU
  simp only [List.length_cons, List.length_nil, List.drop_succ_cons, List.drop_zero, List.drop_nil]
  replace p5_r0_1 := p5_r0_1.below hI
  replace r10_g0_1 := r10_g0_1.below hI
  replace b1 := b1.below hI
  replace b2 := b2.below hI
  replace b5 := b5.below hI
  replace b7 := b7.below hI
  replace b9 := b9.below hI
  replace b11 := b11.below hI
  replace A := A.trans (hI.mono A.size)
  have z22 := hI.size
  clear hI
  have g22lt := b22.1
  have b1s := b1.1
  have b1c := b1.2
  have b2s := b2.1
  have b2c := b2.2
  have b5s := b5.1
  have b5c := b5.2
  have b7s := b7.1
  have b7c := b7.2
  have b9s := b9.1
  have b9c := b9.2
  have b11s := b11.1
  have b11c := b11.2
  have b22s := b22.1
  have b22c := b22.2
  go_wp2_with fail
  clear b1s b1c b2s b2c b5s b5c b7s b7c b9s b9c b11s b11c b22s b22c
  refine (u_eq_Trace r0_x0 _ _ r0_x1 _ p22_r0_1.sl p5_r0_1.sl (by omega)).mono ?_
  rintro e w23 ⟨rfl, hb⟩
  replace p5_r0_1 := p5_r0_1.below hb
  replace r10_g0_1 := r10_g0_1.below hb
  replace p22_r0_1 := p22_r0_1.below hb
  replace b1 := b1.below hb
  replace b2 := b2.below hb
  replace b5 := b5.below hb
  replace b7 := b7.below hb
  replace b9 := b9.below hb
  replace b11 := b11.below hb
  replace b22 := b22.below hb
  replace A := A.trans (hb.mono A.size)
  have z23 := hb.size
  clear hb
  have b1s := b1.1
  have b1c := b1.2
  have b2s := b2.1
  have b2c := b2.2
  have b5s := b5.1
  have b5c := b5.2
  have b7s := b7.1
  have b7c := b7.2
  have b9s := b9.1
  have b9c := b9.2
  have b11s := b11.1
  have b11c := b11.2
  have b22s := b22.1
  have b22c := b22.2
  go_wp2_with fail
  clear b1s b1c b2s b2c b5s b5c b7s b7c b9s b9c b11s b11c b22s b22c
  refine (u_held_Trace r0_x0 _ r0_x1.length _ _ r10_g0_1.sl (by omega) (by omega)).mono ?_
  rintro e w24 ⟨rfl, hb⟩
  replace p5_r0_1 := p5_r0_1.below hb
  replace r10_g0_1 := r10_g0_1.below hb
  replace p22_r0_1 := p22_r0_1.below hb
  replace b1 := b1.below hb
  replace b2 := b2.below hb
  replace b5 := b5.below hb
  replace b7 := b7.below hb
  replace b9 := b9.below hb
  replace b11 := b11.below hb
  replace b22 := b22.below hb
  replace A := A.trans (hb.mono A.size)
  have z24 := hb.size
  clear hb
  have b1s := b1.1
  have b1c := b1.2
  have b2s := b2.1
  have b2c := b2.2
  have b5s := b5.1
  have b5c := b5.2
  have b7s := b7.1
  have b7c := b7.2
  have b9s := b9.1
  have b9c := b9.2
  have b11s := b11.1
  have b11c := b11.2
  have b22s := b22.1
  have b22c := b22.2
  have BB := Lib.hid A; clear A
  clear p5_r0_1 r10_g0_1 p22_r0_1
  go_wp2
  go_ret
  exact ⟨rfl, BB.out⟩
theorem final_MeetTraces (b : Bool) (v : Value) (xs : List Int) (b' : Bool) (u : Value) (ys : List Int) (w : World) (h : Sl cI w v xs) (h' : Sl cI w u ys) :
    Calls Try.prog 5 #[.agg #[.bool b, v], .agg #[.bool b', u]] w fun e w' => e = .returned (.bool true) ∧ Below w.heap.size w w' := by
  have bad : (okT xs = false ∨ (okT xs = true ∧ okT ys = false)) → Calls Try.prog 5 #[.agg #[.bool b, v], .agg #[.bool b', u]] w fun e w' => e = .returned (.bool true) ∧ Below w.heap.size w w' := fun hc =>
    walk_MeetTraces b v xs b' u ys false [] 1 w h h' (by simp)
      (Lib.hid fun hl W v u h h' => (spec_MeetTraces_bad v u b b' xs ys W h h' (by omega) (by omega) hc).mono fun e w' ⟨he, hb⟩ => ⟨_, he, (Ow.nil _ _).ob, hb⟩)
      (Lib.hid fun hl W v u h h' => (impl_MeetTraces_bad v u b b' xs ys W h h' (by omega) (by omega) hc).mono fun e w' ⟨he, hb⟩ => ⟨_, he, (Ow.nil _ _).ob, hb⟩)
  cases hc : okT xs
  · exact bad (.inl hc)
  · cases hc' : okT ys
    · exact bad (.inr ⟨hc, hc'⟩)
    · exact walk_MeetTraces b v xs b' u ys (b || b') (mtR b xs b' ys) 0 w h h' (by have := mtR_len b xs b' ys; omega)
        (Lib.hid fun hl W v u h h' => (spec_MeetTraces_ok v u b b' xs ys W h h' (by omega) (by omega) hc hc').mono fun e w' ⟨r, he, ho, hb⟩ => ⟨r, he, ho.ob, hb⟩)
        (Lib.hid fun hl W v u h h' => (impl_MeetTraces_ok v u b b' xs ys W h h' (by omega) (by omega) hc hc').mono fun e w' ⟨r, he, ho, hb⟩ => ⟨r, he, ho.ob, hb⟩)
end Go.Proofs.Ytgdmfihnbbgcoaa

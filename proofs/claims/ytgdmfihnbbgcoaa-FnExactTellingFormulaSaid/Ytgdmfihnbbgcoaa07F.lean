/- Contracts of chapter 7, of the reference: a telling formula. -/
import Derived.Test.Ytgdmfihnbbgcoaa07E
import Derived.Test.Ytgdmfihnbbgcoaa34a
namespace Go.Proofs.Ytgdmfihnbbgcoaa
open Go.RowKit
set_option linter.unusedVariables false
set_option linter.unusedSimpArgs false
set_option maxRecDepth 100000 in
set_option maxHeartbeats 1000000 in
theorem spec_l07Tell_zero (ns us ks ts : List Nat) (A0 A1 B0 B1 : Option Addr) (c0 c1 d0 d1 x y v : Nat) (vl vt : Value) (w : World) (hm : Mdl w (.slice A0 ns.length c0) (.slice A1 6 c1) ns us) (hm2 : Mdl w (.slice B0 ks.length d0) (.slice B1 6 d1) ks ts) (h1 : MdN ns us) (h2 : MdN ks ts) (hx : x ≤ 60) (hy : y ≤ 60) (hd : dif us ts x y = some v) :
    Calls Try.prog 146 #[.agg #[.int .i64 ns.length, .slice A0 ns.length c0, .slice A1 6 c1], .agg #[.int .i64 ks.length, .slice B0 ks.length d0, .slice B1 6 d1], vl, vt, .int .i64 x, .int .i64 y, .int .i64 (0 : Nat)] w
      fun e w' => ∃ u, e = .returned u ∧ Ow cN 89 w.heap.size w' u (litF us v x) ∧ Below w.heap.size w w' := by
  have hb0 := below_alloc' w (.cells #[.int .i64 ns.length, .slice A0 ns.length c0, .slice A1 6 c1] 62)
  have hk0 := Blk.new w 62 #[.int .i64 ns.length, .slice A0 ns.length c0, .slice A1 6 c1]
  have hb1 := below_alloc' (w.alloc (.cells #[.int .i64 ns.length, .slice A0 ns.length c0, .slice A1 6 c1] 62)) (.cells #[.int .i64 ks.length, .slice B0 ks.length d0, .slice B1 6 d1] 62)
  have hk1 : Blk _ (w.heap.size + 1) _ _ := Blk.new' (w.alloc (.cells #[.int .i64 ns.length, .slice A0 ns.length c0, .slice A1 6 c1] 62)) 62 #[.int .i64 ks.length, .slice B0 ks.length d0, .slice B1 6 d1] (by simp)
  have HB := Lib.hid (bthen hb0 hb1)
  have HK0 := Lib.hid (hk0.below hb1 hk0.lt)
  have HK1 := Lib.hid hk1
  have HM := Lib.hid ((hm.below hb0).below hb1)
  have HM2 := Lib.hid ((hm2.below hb0).below hb1)
  have hl6 := h1.l
  have hl6' := h2.l
  have HU := Lib.hid h1.u256
  have HV := Lib.hid h2.u256
  have hdd := hd
  unfold dif at hdd
  rw [List.find?_range_eq_some] at hdd
  have hv6 := List.mem_range.1 hdd.2.1
  have HD1 : Hid (((us.getD v 0).testBit x != (ts.getD v 0).testBit y) = true) := Lib.hid hdd.1
  have HD2 : Hid (∀ j, j < v → (us.getD j 0).testBit x = (ts.getD j 0).testBit y) := Lib.hid fun j hj => by
    have := hdd.2.2 j hj
    simpa using this
  have HLit : Hid (litF us v x = if (us.getD v 0).testBit x then [(0, (v : Int))] else [(4, 0), (0, (v : Int)), (1, 0)]) := Lib.hid rfl
  generalize litF us v x = lf at *
  clear hb0 hb1 hk0 hk1 hm hm2 h1 h2 hd hdd
  go_enter Try.func146, Try.ntmps146
  go_upto_region 1 with fail
  generalize World.alloc (w.alloc _) _ = W at *
  have k1 : W.cell? ⟨w.heap.size, 2, none⟩ = some (.slice A1 6 c1) := HK0.out.cell 2
  have k2 : W.cell? ⟨w.heap.size + 1, 2, none⟩ = some (.slice B1 6 d1) := HK1.out.cell 2
  have l0 := HK0.out.lt
  have l1 := HK1.out.lt
  go_wp2
  go_loopw [15] (fun i wr => ∃ j : Nat, j ≤ v ∧ i = .int .i64 j ∧ Below W.heap.size W wr) (fun i _ => v + 1 - (intOf i).toNat)
  case atStart => exact ⟨0, Nat.zero_le _, rfl, Below.refl _ _⟩
  case round =>
    obtain ⟨j, hj, rfl, hbw⟩ := hrel
    have HBw := Lib.hid hbw
    have hu := (HM.out.below hbw).u
    have ht := (HM2.out.below hbw).u
    have k1' := (hbw.cell (p := ⟨w.heap.size, 2, none⟩) l0).trans k1
    have k2' := (hbw.cell (p := ⟨w.heap.size + 1, 2, none⟩) l1).trans k2
    have l0' := Nat.lt_of_lt_of_le l0 hbw.size
    have l1' := Nat.lt_of_lt_of_le l1 hbw.size
    clear hbw
    obtain ⟨bu, ou, e1, hbu, hcu⟩ := li_at hu (k := j) (by omega)
    obtain ⟨bt, ot, e2, hbt, hct⟩ := li_at ht (k := j) (by omega)
    subst e1
    subst e2
    have eu : us[j]'(by omega) = us.getD j 0 := by simp [List.getD_eq_getElem?_getD, show j < us.length by omega]
    have et : ts[j]'(by omega) = ts.getD j 0 := by simp [List.getD_eq_getElem?_getD, show j < ts.length by omega]
    rw [eu] at hcu
    rw [et] at hct
    have HQ1 := Lib.hid (fun n => q_l01Bit (m := us.getD j 0) (i := x) (by have := HU.out j; omega) (by omega) wr n)
    have HQ2 := Lib.hid (fun n => q_l01Bit (m := ts.getD j 0) (i := y) (by have := HV.out j; omega) (by omega) wr n)
    have hj6 : (j : Int) < 6 := by omega
    have HVar := Lib.hid (fun X => spec_var (j : Int) X)
    by_cases hjv : j = v
    · subst hjv
      obtain ⟨z1, hz1⟩ : ∃ z, (us.getD j 0).testBit x = z := ⟨_, rfl⟩
      obtain ⟨z2, hz2⟩ : ∃ z, (ts.getD j 0).testBit y = z := ⟨_, rfl⟩
      rw [hz1] at HQ1 HD1 HLit
      rw [hz2] at HQ2 HD1
      clear hz1 hz2
      generalize us.getD j 0 = m1 at *
      generalize ts.getD j 0 = m2 at *
      clear hu ht eu et
      cases z1 <;> cases z2
      · exact absurd HD1.out (by decide)
      · go_wp2
        go_quiet ((go_at_call 145; first | with_reducible exact HQ1.out _ | with_reducible exact HQ2.out _))
        go_wp2_with fail
        refine (HVar.out _).mono ?_
        rintro e w6 ⟨u6, rfl, ho6, hb6⟩
        have HB5 : Hid (Below w.heap.size w (wr.drewN nq)) := Lib.hid (bthen HB.out (below_drewN HBw.out nq))
        have HB6 := Lib.hid (bthen HB5.out hb6)
        have HNeg := Lib.hid (spec_l02Not u6 _ w6 ho6.sl (by simp))
        clear ho6 hb6 hcu hct k1' k2'
        go_wp2_with fail
        refine HNeg.out.mono ?_
        rintro e w7 ⟨u7, rfl, ho7, hb7⟩
        obtain ⟨A7, c7, rfl⟩ := ho7.opn
        have HO7 := Lib.hid (ho7.mono HB6.out.size)
        have HB7 := Lib.hid (bthen HB6.out hb7)
        clear ho7 hb7
        go_wp2
        go_ret
        exact ⟨_, rfl, by rw [HLit.out]; exact HO7.out, HB7.out⟩
      · go_wp2
        go_quiet ((go_at_call 145; first | with_reducible exact HQ1.out _ | with_reducible exact HQ2.out _))
        go_wp2_with fail
        refine (HVar.out _).mono ?_
        rintro e w6 ⟨u6, rfl, ho6, hb6⟩
        have HB5 : Hid (Below w.heap.size w (wr.drewN nq)) := Lib.hid (bthen HB.out (below_drewN HBw.out nq))
        obtain ⟨A7, c7, rfl⟩ := ho6.opn
        have HO7 := Lib.hid (ho6.mono HB5.out.size)
        have HB7 := Lib.hid (bthen HB5.out hb6)
        clear ho6 hb6 hcu hct k1' k2'
        go_wp2
        go_ret
        exact ⟨_, rfl, by rw [HLit.out]; exact HO7.out, HB7.out⟩
      · exact absurd HD1.out (by decide)
    · have hz := HD2.out j (by omega)
      rw [hz] at HQ1
      obtain ⟨z2, hz2⟩ : ∃ z, (ts.getD j 0).testBit y = z := ⟨_, rfl⟩
      rw [hz2] at HQ1 HQ2
      clear hz hz2
      generalize us.getD j 0 = m1 at *
      generalize ts.getD j 0 = m2 at *
      clear hu ht eu et
      cases z2
      all_goals
        go_wp2
        go_quiet ((go_at_call 145; first | with_reducible exact HQ1.out _ | with_reducible exact HQ2.out _))
        go_wp2
        go_roundw
        case rel => exact ⟨j + 1, by omega, by go_num, below_drewN HBw.out _⟩
        case measure => simp [intOf]; omega
end Go.Proofs.Ytgdmfihnbbgcoaa

/- Contracts of QuotientModel, of the reference. -/
import Derived.Test.YtnolbgdbboiehaaGreat07u
namespace Go.Proofs.YtnolbgdbboiehaaGreat
open Go.RowKit
set_option linter.unusedVariables false
set_option linter.unusedSimpArgs false
set_option maxHeartbeats 2000000 in
set_option maxRecDepth 100000 in
theorem spec_QuotientModel_ok (ns us : List Nat) (A0 A1 : Option Addr) (c0 c1 : Nat) (w : World) (hm : Mdl w (.slice A0 ns.length c0) (.slice A1 6 c1) ns us) (h1 : MdN ns us) (hok : mdOk ns.length (li ns) (li us) = true) :
    Calls Tryz.prog 9 #[.agg #[.int .i64 ns.length, .slice A0 ns.length c0, .slice A1 6 c1]] w
      fun e w' => ∃ u1 u2, e = .returned (.tuple #[.agg #[.int .i64 (qn ns us : Nat), u1, u2], .int .i64 0]) ∧ Ow cI 2 w.heap.size w' u1 (li (qrl (qcl ns us) ns (qn ns us) ns.length)) ∧ Ow cI 2 w.heap.size w' u2 (li (qvl (qcl ns us) us)) ∧ Below w.heap.size w w' := by
  have hb0 := below_alloc' w (.cells #[.int .i64 ns.length, .slice A0 ns.length c0, .slice A1 6 c1] 28)
  have hk0 := Blk.new w 28 #[.int .i64 ns.length, .slice A0 ns.length c0, .slice A1 6 c1]
  have hb1 := below_alloc' (w.alloc (.cells #[.int .i64 ns.length, .slice A0 ns.length c0, .slice A1 6 c1] 28)) (.cells #[.int .i64 0, .slice none 0 0, .slice none 0 0] 28)
  have hk1 : Blk _ (w.heap.size + 1) _ _ := Blk.new' (w.alloc (.cells #[.int .i64 ns.length, .slice A0 ns.length c0, .slice A1 6 c1] 28)) 28 #[.int .i64 0, .slice none 0 0, .slice none 0 0] (by simp)
  have HB := Lib.hid (bthen hb0 hb1)
  have HK0 := Lib.hid (hk0.below hb1 hk0.lt)
  have HK1 := Lib.hid hk1
  have E1 := Lib.hid (li_length ns)
  have E2 := Lib.hid (show (li us).length = 6 by rw [li_length, h1.l])
  have LQ := Lib.hid (qcl_length ns us)
  have h8 := h1.r.1
  have HI := Lib.hid (fun W (hW : Below w.heap.size w W) => hok ▸ spec_l06Is ns.length _ _ (li ns) (li us) W (hm.a.below hW) (hm.u.below hW) (by rw [E1.out]; omega) (by rw [E2.out]; omega))
  have HC := Lib.hid (fun W (hW : Below w.heap.size w W) => spec_l07Classes ns us A0 A1 c0 c1 W (hm.below hW) h1)
  have HQ := Lib.hid (fun A2 c2 W (hW : Below w.heap.size w W) (hc : Sl cI W (.slice A2 ns.length c2) (li (qcl ns us))) => spec_l07Quotient ns us (qcl ns us) (qn ns us) rfl A0 A1 A2 c0 c1 c2 W (hm.below hW) h1 hc (qcl_length ns us) (qcl_lt ns us h8))
  replace HC : Hid (∀ W, Below w.heap.size w W → Calls Tryz.prog 41 #[.agg #[.int .i64 ns.length, .slice A0 ns.length c0, .slice A1 6 c1]] W fun e w' => ∃ A c, e = .returned (.slice A ns.length c) ∧ Ow cI 2 W.heap.size w' (.slice A ns.length c) (li (qcl ns us)) ∧ Below W.heap.size W w') := HC
  clear hb0 hb1 hk0 hk1 hm h1 hok LQ
  generalize qn ns us = n at *
  generalize li (qrl (qcl ns us) ns n ns.length) = xs at *
  generalize li (qvl (qcl ns us) us) = ys at *
  generalize li (qcl ns us) = cl at *
  go_enter Tryz.func9, Tryz.ntmps9
  go_upto_region 1 with fail
  generalize World.alloc (w.alloc _) _ = W at *
  have k0 := HK0.out.cell
  have l0 := HK0.out.lt
  go_wp2_with fail
  refine (HI.out _ HB.out).mono ?_
  rintro e w1 ⟨rfl, hb⟩
  have HB1 := Lib.hid (bthen HB.out hb)
  have HKa := Lib.hid (HK1.out.below hb HK1.out.lt)
  have hk1 := HK0.out.below hb l0
  have HKb := Lib.hid hk1
  have k1 := hk1.cell
  have l1 := hk1.lt
  have r1 := HKa.out.cell
  have rf1 := HKa.out.frozen
  have rl1 := HKa.out.lt
  clear k0 hb HK0 HK1 HB hk1
  go_wp2
  go_region_law (first | (go_simp; go_at_call 41; refine (HC.out _ (below_drewN HB1.out 1)).mono ?_; rintro e w2 ⟨A2, c2, rfl, ho, hb⟩; have hb2 := (below_drewN HB1.out 1).trans (hb.mono (below_drewN HB1.out 1).size); have hk2 := HKb.out.below ((below_drewN (Below.refl _ _) 1).trans hb) l1; have k2 := hk2.cell; have l2 := hk2.lt; have hr2 := HKa.out.below ((below_drewN (Below.refl _ _) 1).trans hb) rl1) | (go_simp; go_at_call 40; refine (HQ.out _ _ _ hb2 ho.sl).mono ?_; rintro e w3 ⟨u1, u2, rfl, ho1, ho2, hb⟩; obtain ⟨B1, d1, rfl⟩ := ho1.opn; obtain ⟨B2, d2, rfl⟩ := ho2.opn; have hb3 := bthen hb2 hb; have hr3 := hr2.below hb hr2.lt; have r3 := hr3.cell; have rf3 := hr3.frozen; have rl3 := hr3.lt))
  all_goals
    have hw1 : w.heap.size + 2 ≤ w2.heap.size := hr2.lt
    have Z1 := Lib.hid (ho1.mono hw1)
    have Z2 := Lib.hid (ho2.mono hw1)
    have Z3 := Lib.hid hb3
    clear ho1 ho2 hb3 hb2 hb hr2 hk2 k2 ho
    go_wp2
    refine bodyPost_ret (v := .tuple #[.agg #[.int .i64 n, .slice B1 xs.length d1, .slice B2 ys.length d2], .int .i64 0]) (by simp [results, Tryz.results9, go_sem, r3, rf3, rl3]) rfl ⟨_, _, rfl, ?_, ?_, ?_⟩
    · exact (((Z1.out.setBelow (Nat.lt_succ_self _) _).setBelow (Nat.lt_succ_self _) _).setBelow (Nat.lt_succ_self _) _).mono (show w.heap.size ≤ w.heap.size + 2 by omega)
    · exact (((Z2.out.setBelow (Nat.lt_succ_self _) _).setBelow (Nat.lt_succ_self _) _).setBelow (Nat.lt_succ_self _) _).mono (show w.heap.size ≤ w.heap.size + 2 by omega)
    · exact ((Z3.out.setCell (Nat.le_succ _) _).setCell (Nat.le_succ _) _).setCell (Nat.le_succ _) _
theorem spec_QuotientModel_bad (n : Int) (va vu : Value) (xs vs : List Int) (w : World) (ha : Sl cI w va xs) (hu : Sl cI w vu vs) (hl : xs.length ≤ 1048576) (hl' : vs.length ≤ 1048576) (hc : mdOk n xs vs = false) :
    Calls Tryz.prog 9 #[.agg #[.int .i64 n, va, vu]] w fun e w' => e = .returned (.tuple #[.agg #[.int .i64 0, .slice none 0 0, .slice none 0 0], .int .i64 1]) ∧ Below w.heap.size w w' := by
  obtain ⟨A0, c0, rfl⟩ := ha.opn
  obtain ⟨A1, c1, rfl⟩ := hu.opn
  have hb0 := below_alloc' w (.cells #[.int .i64 n, .slice A0 xs.length c0, .slice A1 vs.length c1] 28)
  have hk0 := Blk.new w 28 #[.int .i64 n, .slice A0 xs.length c0, .slice A1 vs.length c1]
  have hb1 := below_alloc' (w.alloc (.cells #[.int .i64 n, .slice A0 xs.length c0, .slice A1 vs.length c1] 28)) (.cells #[.int .i64 0, .slice none 0 0, .slice none 0 0] 28)
  have hk1 : Blk _ (w.heap.size + 1) _ _ := Blk.new' (w.alloc (.cells #[.int .i64 n, .slice A0 xs.length c0, .slice A1 vs.length c1] 28)) 28 #[.int .i64 0, .slice none 0 0, .slice none 0 0] (by simp)
  have HB := Lib.hid (bthen hb0 hb1)
  have HK0 := Lib.hid (hk0.below hb1 hk0.lt)
  have HK1 := Lib.hid hk1
  have HI := Lib.hid (fun W (hW : Below w.heap.size w W) => hc ▸ spec_l06Is n _ _ xs vs W (ha.below hW) (hu.below hW) (by omega) (by omega))
  clear ha hu hb0 hb1 hk0 hk1 hc
  go_enter Tryz.func9, Tryz.ntmps9
  go_upto_region 1 with fail
  generalize World.alloc (w.alloc _) _ = W at *
  have k0 := HK0.out.cell
  have l0 := HK0.out.lt
  go_wp2_with fail
  refine (HI.out _ HB.out).mono ?_
  rintro e w1 ⟨rfl, hb⟩
  have HB1 := Lib.hid (bthen HB.out hb)
  have hr1 := HK1.out.below hb HK1.out.lt
  have rc := hr1.cell
  have rf := hr1.frozen
  have rl := hr1.lt
  clear k0 hb hr1
  go_wp2
  refine bodyPost_ret (v := .tuple #[.agg #[.int .i64 0, .slice none 0 0, .slice none 0 0], .int .i64 1]) (by simp [results, Tryz.results9, go_sem, rc, rf, rl]) rfl ⟨rfl, ?_⟩
  first | exact ((HB1.out.setCell (Nat.le_succ _) _).setCell (Nat.le_succ _) _).setCell (Nat.le_succ _) _ | exact HB1.out
end Go.Proofs.YtnolbgdbboiehaaGreat

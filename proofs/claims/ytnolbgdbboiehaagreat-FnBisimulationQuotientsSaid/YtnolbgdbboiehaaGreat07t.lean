/- Contracts of QuotientModel, of the program. -/
import Derived.Test.YtnolbgdbboiehaaGreat07s
namespace Go.Proofs.YtnolbgdbboiehaaGreat
open Go.RowKit
set_option linter.unusedVariables false
set_option linter.unusedSimpArgs false
/-- what a Model that is a result holds: its lists lie in memory of their own, the one below H, the other from H on -/
def MdR (w w' : World) (u1 u2 : Value) (xs ys : List Int) : Prop := ∃ H, w.heap.size ≤ H ∧ H ≤ w'.heap.size ∧ Ob cI 2 w.heap.size H w' u1 xs ∧ Ob cI 2 H w'.heap.size w' u2 ys
set_option maxHeartbeats 2000000 in
set_option maxRecDepth 100000 in
theorem impl_QuotientModel_ok (ns us : List Nat) (A0 A1 : Option Addr) (c0 c1 : Nat) (w : World) (hm : Mdl w (.slice A0 ns.length c0) (.slice A1 6 c1) ns us) (h1 : MdN ns us) (hok : mdOk ns.length (li ns) (li us) = true) :
    Calls Tryz.prog 8 #[.agg #[.int .i64 ns.length, .slice A0 ns.length c0, .slice A1 6 c1]] w
      fun e w' => ∃ u1 u2, e = .returned (.tuple #[.agg #[.int .i64 (qn ns us : Nat), u1, u2], .int .i64 0]) ∧ MdR w w' u1 u2 (li (qrl (qcl ns us) ns (qn ns us) ns.length)) (li (qvl (qcl ns us) us)) ∧ Below w.heap.size w w' := by
  have hb0 := below_alloc' w (.cells #[.int .i64 ns.length, .slice A0 ns.length c0, .slice A1 6 c1] 28)
  have hk0 := Blk.new w 28 #[.int .i64 ns.length, .slice A0 ns.length c0, .slice A1 6 c1]
  have hb1 := below_alloc' (w.alloc (.cells #[.int .i64 ns.length, .slice A0 ns.length c0, .slice A1 6 c1] 28)) (.cells #[.int .i64 0, .slice none 0 0, .slice none 0 0] 28)
  have hk1 : Blk _ (w.heap.size + 1) _ _ := Blk.new' (w.alloc (.cells #[.int .i64 ns.length, .slice A0 ns.length c0, .slice A1 6 c1] 28)) 28 #[.int .i64 0, .slice none 0 0, .slice none 0 0] (by simp)
  have HB := Lib.hid (bthen hb0 hb1)
  have HK0 := Lib.hid (hk0.below hb1 hk0.lt)
  have HK1 := Lib.hid hk1
  have E1 := Lib.hid (li_length ns)
  have E2 := Lib.hid (show (li us).length = 6 by rw [li_length, h1.l])
  have h8 := h1.r.1
  have HI := Lib.hid (fun W (hW : Below w.heap.size w W) => hok ▸ impl_isModel ns.length _ _ (li ns) (li us) W (hm.a.below hW) (hm.u.below hW) (by rw [E1.out]; omega) (by rw [E2.out]; omega))
  have HQ := Lib.hid (fun W (hW : Below w.heap.size w W) => impl_quotientModel ns us A0 A1 c0 c1 W (hm.below hW) h1)
  clear hb0 hb1 hk0 hk1 hm h1 hok
  generalize qn ns us = n at *
  generalize li (qrl (qcl ns us) ns n ns.length) = xs at *
  generalize li (qvl (qcl ns us) us) = ys at *
  go_enter Tryz.func8, Tryz.ntmps8
  go_upto_region 1 with fail
  generalize World.alloc (w.alloc _) _ = W at *
  have k0 := HK0.out.cell
  have l0 := HK0.out.lt
  go_wp2_with fail
  refine (HI.out _ HB.out).mono ?_
  rintro e w1 ⟨rfl, hb⟩
  have HB1 := Lib.hid (bthen HB.out hb)
  have HKa := Lib.hid (HK1.out.below hb HK1.out.lt)
  have k1 := (HK0.out.below hb l0).cell
  have l1 := (HK0.out.below hb l0).lt
  clear k0 hb HK0 HK1 HB
  go_wp2_with fail
  refine (HQ.out _ HB1.out).mono ?_
  rintro e w2 ⟨B1, d1, B2, d2, B3, d3, H, rfl, hH1, hH2, ho1, ho2, ho3, hb⟩
  have hr1 := HKa.out.below hb HKa.out.lt
  have rc := hr1.cell
  have rf := hr1.frozen
  have rl := hr1.lt
  have hw1 := HKa.out.lt
  have hw9 : w.heap.size + 1 < H := Nat.lt_of_lt_of_le hw1 hH1
  have Z1 := Lib.hid (ho1.1.mono hw1)
  have Z1b := Lib.hid ho1.2
  have Z2 := Lib.hid ho2
  have Z4 := Lib.hid (bthen HB1.out hb)
  have Z8 : Hid (∀ (W : World) (u1 u2 u3 : Value) (O : Obj), ((((W.setCell ⟨w.heap.size + 1, 0, none⟩ u1).setCell ⟨w.heap.size + 1, 1, none⟩ u2).setCell ⟨w.heap.size + 1, 2, none⟩ u3).alloc O).heap.size = W.heap.size + 1) := Lib.hid (fun W u1 u2 u3 O => by simp [World.setCell])
  clear hb hr1 HKa HB1 ho1 ho2 ho3 k1 l1
  go_wp2
  refine bodyPost_ret (v := .tuple #[.agg #[.int .i64 n, .slice B1 n d1, .slice B2 6 d2], .int .i64 0]) (by simp [results, Tryz.results8, go_sem, rc, rf, rl]) rfl ⟨_, _, rfl, ⟨H, by omega, ?_, ⟨?_, ?_⟩, ⟨?_, ?_⟩⟩, ?_⟩
  · rw [Z8.out]; omega
  · exact ((((Z1.out.setBelow (Nat.lt_succ_self _) _).setBelow (Nat.lt_succ_self _) _).setBelow (Nat.lt_succ_self _) _).alloc _).mono (show w.heap.size ≤ w.heap.size + 1 + 1 by omega)
  · exact Z1b.out
  · exact (((Z2.out.1.setBelow hw9 _).setBelow hw9 _).setBelow hw9 _).alloc _
  · rw [Z8.out]; intro g hg; exact Nat.lt_succ_of_lt (Z2.out.2 g hg)
  · exact (((Z4.out.setCell (Nat.le_succ _) _).setCell (Nat.le_succ _) _).setCell (Nat.le_succ _) _).alloc (by simp only [World.setCell, Array.size_modify]; exact Z4.out.size) _
theorem impl_QuotientModel_bad (n : Int) (va vu : Value) (xs vs : List Int) (w : World) (ha : Sl cI w va xs) (hu : Sl cI w vu vs) (hl : xs.length ≤ 1048576) (hl' : vs.length ≤ 1048576) (hc : mdOk n xs vs = false) :
    Calls Tryz.prog 8 #[.agg #[.int .i64 n, va, vu]] w fun e w' => e = .returned (.tuple #[.agg #[.int .i64 0, .slice none 0 0, .slice none 0 0], .int .i64 1]) ∧ Below w.heap.size w w' := by
  obtain ⟨A0, c0, rfl⟩ := ha.opn
  obtain ⟨A1, c1, rfl⟩ := hu.opn
  have hb0 := below_alloc' w (.cells #[.int .i64 n, .slice A0 xs.length c0, .slice A1 vs.length c1] 28)
  have hk0 := Blk.new w 28 #[.int .i64 n, .slice A0 xs.length c0, .slice A1 vs.length c1]
  have hb1 := below_alloc' (w.alloc (.cells #[.int .i64 n, .slice A0 xs.length c0, .slice A1 vs.length c1] 28)) (.cells #[.int .i64 0, .slice none 0 0, .slice none 0 0] 28)
  have hk1 : Blk _ (w.heap.size + 1) _ _ := Blk.new' (w.alloc (.cells #[.int .i64 n, .slice A0 xs.length c0, .slice A1 vs.length c1] 28)) 28 #[.int .i64 0, .slice none 0 0, .slice none 0 0] (by simp)
  have HB := Lib.hid (bthen hb0 hb1)
  have HK0 := Lib.hid (hk0.below hb1 hk0.lt)
  have HK1 := Lib.hid hk1
  have HI := Lib.hid (fun W (hW : Below w.heap.size w W) => hc ▸ impl_isModel n _ _ xs vs W (ha.below hW) (hu.below hW) (by omega) (by omega))
  clear ha hu hb0 hb1 hk0 hk1 hc
  go_enter Tryz.func8, Tryz.ntmps8
  go_upto_region 1 with fail
  generalize World.alloc (w.alloc _) _ = W at *
  have k0 := HK0.out.cell
  have l0 := HK0.out.lt
  go_wp2_with fail
  refine (HI.out _ HB.out).mono ?_
  rintro e w1 ⟨rfl, hb⟩
  have HB1 := Lib.hid (bthen HB.out hb)
  have hr1 := HK1.out.below hb HK1.out.lt
  have rc := hr1.cell
  have rf := hr1.frozen
  have rl := hr1.lt
  clear k0 hb hr1
  go_wp2
  refine bodyPost_ret (v := .tuple #[.agg #[.int .i64 0, .slice none 0 0, .slice none 0 0], .int .i64 1]) (by simp [results, Tryz.results8, go_sem, rc, rf, rl]) rfl ⟨rfl, ?_⟩
  first | exact ((HB1.out.setCell (Nat.le_succ _) _).setCell (Nat.le_succ _) _).setCell (Nat.le_succ _) _ | exact HB1.out
end Go.Proofs.YtnolbgdbboiehaaGreat

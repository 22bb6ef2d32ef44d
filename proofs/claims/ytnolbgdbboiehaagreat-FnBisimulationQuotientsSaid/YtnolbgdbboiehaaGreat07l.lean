/- Contracts of BisimulationClasses, of the program: arguments that are no model. -/
import Derived.Test.YtnolbgdbboiehaaGreatAN
import Derived.Test.YtnolbgdbboiehaaGreat07j
namespace Go.Proofs.YtnolbgdbboiehaaGreat
open Go.RowKit
set_option linter.unusedVariables false
set_option linter.unusedSimpArgs false
theorem impl_BisimulationClasses_bad (n : Int) (va vu : Value) (xs vs : List Int) (w : World) (ha : Sl cI w va xs) (hu : Sl cI w vu vs) (hl : xs.length ≤ 1048576) (hl' : vs.length ≤ 1048576) (hc : mdOk n xs vs = false) :
    Calls Tryz.prog 10 #[.agg #[.int .i64 n, va, vu]] w fun e w' => e = .returned (.tuple #[.slice none 0 0, .int .i64 1]) ∧ Below w.heap.size w w' := by
  obtain ⟨A0, c0, rfl⟩ := ha.opn
  obtain ⟨A1, c1, rfl⟩ := hu.opn
  have hb0 := below_alloc' w (.cells #[.int .i64 n, .slice A0 xs.length c0, .slice A1 vs.length c1] 28)
  have hk0 := Blk.new w 28 #[.int .i64 n, .slice A0 xs.length c0, .slice A1 vs.length c1]
  have HB := Lib.hid hb0
  have HK0 := Lib.hid hk0
  have HI := Lib.hid (hc ▸ impl_isModel n _ _ xs vs _ (ha.below hb0) (hu.below hb0) (by omega) (by omega))
  clear ha hu hb0 hk0 hc
  go_enter Tryz.func10, Tryz.ntmps10
  go_upto_region 1 with fail
  generalize World.alloc w _ = W at *
  have k0 := HK0.out.cell
  have l0 := HK0.out.lt
  go_wp2_with fail
  refine HI.out.mono ?_
  rintro e w1 ⟨rfl, hb⟩
  have HB1 := Lib.hid (bthen HB.out hb)
  clear k0 hb
  go_wp2
  go_ret2
  exact ⟨rfl, HB1.out⟩
theorem impl_BisimulationClasses_ok (ns us : List Nat) (A0 A1 : Option Addr) (c0 c1 : Nat) (w : World) (hm : Mdl w (.slice A0 ns.length c0) (.slice A1 6 c1) ns us) (h1 : MdN ns us) (hok : mdOk ns.length (li ns) (li us) = true) :
    Calls Tryz.prog 10 #[.agg #[.int .i64 ns.length, .slice A0 ns.length c0, .slice A1 6 c1]] w
      fun e w' => ∃ u, e = .returned (.tuple #[u, .int .i64 0]) ∧ Ow cI 2 w.heap.size w' u (li (bcl ns us ns.length).1) ∧ Below w.heap.size w w' := by
  have h8 := h1.r.1
  have hb0 := below_alloc' w (.cells #[.int .i64 ns.length, .slice A0 ns.length c0, .slice A1 6 c1] 28)
  have hk0 := Blk.new w 28 #[.int .i64 ns.length, .slice A0 ns.length c0, .slice A1 6 c1]
  have HB := Lib.hid hb0
  have HK0 := Lib.hid hk0
  have E1 := Lib.hid (li_length ns)
  have E2 := Lib.hid (show (li us).length = 6 by rw [li_length, h1.l])
  have HI := Lib.hid (fun W (hW : Below w.heap.size w W) => hok ▸ impl_isModel ns.length _ _ (li ns) (li us) W (hm.a.below hW) (hm.u.below hW) (by rw [E1.out]; omega) (by rw [E2.out]; omega))
  have HC := Lib.hid (fun W (hW : Below w.heap.size w W) => impl_bisimilar ns us ns us A0 A1 A0 A1 c0 c1 c0 c1 W (hm.below hW) (hm.below hW) h1 h1)
  have HD := Lib.hid (fun v W (hW : Sl cI W v (li (bnd ns us ns us 16))) => impl_classesOf v (bnd ns us ns us 16) W hW (fun i => Nat.lt_of_lt_of_le (getD_lt (bnd_lt ns us ns us 16) i) (two_pow_256 h8)) (by rw [bnd_length]; omega))
  have HE : Hid ((dvd (fun y => (bnd ns us ns us 16).getD y 0) (bnd ns us ns us 16).length).1 = (bcl ns us ns.length).1) := Lib.hid (by rw [bnd_length]; rfl)
  clear hb0 hk0 hm h1 hok
  go_enter Tryz.func10, Tryz.ntmps10
  go_upto_region 1 with fail
  generalize World.alloc w _ = W at *
  have k0 := HK0.out.cell
  have l0 := HK0.out.lt
  go_wp2_with fail
  refine (HI.out _ HB.out).mono ?_
  rintro e w1 ⟨rfl, hb⟩
  have HB1 := Lib.hid (bthen HB.out hb)
  have k1 := (HK0.out.below hb l0).cell
  have l1 := (HK0.out.below hb l0).lt
  clear k0 hb
  go_wp2_with fail
  refine (HC.out _ HB1.out).mono ?_
  rintro e w2 ⟨A, c, rfl, hg, hb⟩
  have HG := Lib.hid hg
  have HB2 := Lib.hid (bthen HB1.out hb)
  clear hg hb k1
  go_wp2_with fail
  refine (HD.out _ _ HG.out).mono ?_
  rintro e w3 ⟨u, rfl, ho, hb⟩
  rw [HE.out] at ho
  obtain ⟨Au, cu, rfl⟩ := ho.opn
  have HO := Lib.hid (ho.mono HB2.out.size)
  have HB3 := Lib.hid (bthen HB2.out hb)
  clear ho hb
  go_wp2
  go_ret2
  exact ⟨_, rfl, HO.out, HB3.out⟩
end Go.Proofs.YtnolbgdbboiehaaGreat

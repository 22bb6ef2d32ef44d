/- TruthSet of both sides, IsModel, and the laws' bit5; DrawSubformulasOf by shape. -/
import Derived.Test.YtgcoohlakcncbaaGreat06t
import Derived.Test.YtgcoohlakcncbaaGreatFB
import Derived.Test.YtgcoohlakcncbaaGreatSA
import Derived.Test.YtgcoohlakcncbaaGreatDA
namespace Go.Proofs.YtgcoohlakcncbaaGreat
open Go.RowKit
set_option linter.unusedVariables false
set_option linter.unusedSimpArgs false
/-- a model and a formula, or not -/
def mfC (n : Int) (xs vs : List Int) (zs : List Nd) : Int := if mdOk n xs vs && isF zs then 0 else 1
theorem impl_modelCode6 (n : Int) (va vu vf : Value) (xs vs : List Int) (zs : List Nd) (w : World) (ha : Sl cI w va xs) (hu : Sl cI w vu vs) (hf : Sl cN w vf zs) (hl : xs.length ≤ 1048576) (hl' : vs.length ≤ 1048576) (hl2 : zs.length ≤ 1048576) :
    Calls Tryz.prog 121 #[.agg #[.int .i64 n, va, vu], vf] w fun e w' => e = .returned (.int .i64 (mfC n xs vs zs)) ∧ Below w.heap.size w w' := by
  obtain ⟨A0, c0, rfl⟩ := ha.opn
  obtain ⟨A1, c1, rfl⟩ := hu.opn
  have hb0 := below_alloc' w (.cells #[.int .i64 n, .slice A0 xs.length c0, .slice A1 vs.length c1] 69)
  have hk0 := Blk.new w 69 #[.int .i64 n, .slice A0 xs.length c0, .slice A1 vs.length c1]
  have H1 := Lib.hid (impl_isModel n _ _ xs vs _ (ha.below hb0) (hu.below hb0) (by omega) (by omega))
  have H2 := Lib.hid (fun W (hW : Sl cN W vf zs) => impl_isFormula vf zs W hW (by omega))
  have Hf := Lib.hid (hf.below hb0)
  have HB := Lib.hid hb0
  have HK0 := Lib.hid hk0
  clear ha hu hf hb0 hk0
  cases hm : mdOk n xs vs
  · have E : Hid (mfC n xs vs zs = 1) := Lib.hid (by unfold mfC; rw [hm]; rfl)
    rw [hm] at H1
    clear hm
    go_enter Tryz.func121, Tryz.ntmps121
    go_upto_region 1 with fail
    generalize World.alloc w _ = W at *
    have k0 := HK0.out.cell
    have l0 := HK0.out.lt
    go_wp2_with fail
    refine H1.out.mono ?_
    rintro e w1 ⟨rfl, hb⟩
    have HB1 := Lib.hid (bthen HB.out hb)
    clear hb
    go_wp2
    go_ret
    exact ⟨by rw [E.out]; rfl, HB1.out⟩
  · rw [hm] at H1
    cases hF : isF zs
    · have E : Hid (mfC n xs vs zs = 1) := Lib.hid (by unfold mfC; rw [hm, hF]; rfl)
      rw [hF] at H2
      clear hm hF
      go_enter Tryz.func121, Tryz.ntmps121
      go_upto_region 1 with fail
      generalize World.alloc w _ = W at *
      have k0 := HK0.out.cell
      have l0 := HK0.out.lt
      go_wp2_with fail
      refine H1.out.mono ?_
      rintro e w1 ⟨rfl, hb⟩
      have HB1 := Lib.hid (bthen HB.out hb)
      have Hf1 := Lib.hid (Hf.out.below hb)
      clear hb k0 l0
      go_wp2_with fail
      refine (H2.out _ Hf1.out).mono ?_
      rintro e w2 ⟨rfl, hb⟩
      have HB2 := Lib.hid (bthen HB1.out hb)
      clear hb
      go_wp2
      go_ret
      exact ⟨by rw [E.out]; rfl, HB2.out⟩
    · have E : Hid (mfC n xs vs zs = 0) := Lib.hid (by unfold mfC; rw [hm, hF]; rfl)
      rw [hF] at H2
      clear hm hF
      go_enter Tryz.func121, Tryz.ntmps121
      go_upto_region 1 with fail
      generalize World.alloc w _ = W at *
      have k0 := HK0.out.cell
      have l0 := HK0.out.lt
      go_wp2_with fail
      refine H1.out.mono ?_
      rintro e w1 ⟨rfl, hb⟩
      have HB1 := Lib.hid (bthen HB.out hb)
      have Hf1 := Lib.hid (Hf.out.below hb)
      clear hb k0 l0
      go_wp2_with fail
      refine (H2.out _ Hf1.out).mono ?_
      rintro e w2 ⟨rfl, hb⟩
      have HB2 := Lib.hid (bthen HB1.out hb)
      clear hb
      go_wp2
      go_ret
      exact ⟨by rw [E.out]; rfl, HB2.out⟩
theorem impl_truthIn6 (ns us : List Nat) (f : Fm) (A0 A1 : Option Addr) (c0 c1 : Nat) (v : Value) (w : World) (hm : Mdl w (.slice A0 ns.length c0) (.slice A1 6 c1) ns us) (h1 : MdN ns us) (h : Sl cN w v (enc f)) (hok : f.ok = true) (hl : (enc f).length ≤ 1048576) :
    Calls Tryz.prog 122 #[.agg #[.int .i64 ns.length, .slice A0 ns.length c0, .slice A1 6 c1], v] w fun e w' => e = .returned (.int .i64 (tv ns us f : Nat)) ∧ Below w.heap.size w w' := by
  have hb0 := below_alloc' w (.cells #[.int .i64 ns.length, .slice A0 ns.length c0, .slice A1 6 c1] 69)
  have hk0 := Blk.new w 69 #[.int .i64 ns.length, .slice A0 ns.length c0, .slice A1 6 c1]
  have HB := Lib.hid hb0
  have HK0 := Lib.hid hk0
  have HT := Lib.hid (fun W (hW : Below w.heap.size w W) => impl_truthSet ns us f _ _ v W (hm.a.below hW) (hm.u.below hW) (h.below hW) h1.r h1.l h1.b hok hl)
  clear hb0 hk0 hm h1 h
  go_enter Tryz.func122, Tryz.ntmps122
  go_upto_region 1 with fail
  generalize World.alloc w _ = W at *
  have k0 := HK0.out.cell
  have l0 := HK0.out.lt
  go_wp2_with fail
  refine (HT.out _ HB.out).mono ?_
  rintro e w1 ⟨rfl, hb⟩
  have HB1 := Lib.hid (bthen HB.out hb)
  clear k0 hb
  go_wp2
  go_ret
  exact ⟨rfl, HB1.out⟩
theorem impl_TruthSet_ok (ns us : List Nat) (f : Fm) (A0 A1 : Option Addr) (c0 c1 : Nat) (v : Value) (w : World) (hm : Mdl w (.slice A0 ns.length c0) (.slice A1 6 c1) ns us) (h1 : MdN ns us) (h : Sl cN w v (enc f)) (hok : f.ok = true) (hl : (enc f).length ≤ 40) (hmk : mdOk ns.length (li ns) (li us) = true) (hfk : isF (enc f) = true) :
    Calls Tryz.prog 44 #[.agg #[.int .i64 ns.length, .slice A0 ns.length c0, .slice A1 6 c1], v] w fun e w' => e = .returned (.tuple #[.int .i64 (tv ns us f : Nat), .int .i64 0]) ∧ Below w.heap.size w w' := by
  have hb0 := below_alloc' w (.cells #[.int .i64 ns.length, .slice A0 ns.length c0, .slice A1 6 c1] 69)
  have HK0 := Lib.hid (Blk.new w 69 #[.int .i64 ns.length, .slice A0 ns.length c0, .slice A1 6 c1])
  have HB := Lib.hid hb0
  have E : mfC ns.length (li ns) (li us) (enc f) = 0 := by unfold mfC; rw [hmk, hfk]; rfl
  have HC := Lib.hid (fun W (hW : Below w.heap.size w W) => E ▸ impl_modelCode6 ns.length _ _ v (li ns) (li us) (enc f) W (hm.a.below hW) (hm.u.below hW) (h.below hW) (by rw [li_length]; have := h1.r.1; omega) (by rw [li_length, h1.l]; omega) (by omega))
  have HT := Lib.hid (fun W (hW : Below w.heap.size w W) => impl_truthIn6 ns us f A0 A1 c0 c1 v W (hm.below hW) h1 (h.below hW) hok (by omega))
  clear hb0 hm h1 h E hmk hfk hl
  go_enter Tryz.func44, Tryz.ntmps44
  go_upto_region 1 with fail
  generalize World.alloc w _ = W at *
  have k0 := HK0.out.cell
  have l0 := HK0.out.lt
  go_wp2_with fail
  refine (HC.out _ HB.out).mono ?_
  rintro e w1 ⟨rfl, hb⟩
  have HB1 := Lib.hid (bthen HB.out hb)
  have hk0 := HK0.out.below hb HK0.out.lt
  clear hb k0 l0 HK0
  have k0 := hk0.cell
  have l0 := hk0.lt
  clear hk0
  go_wp2_with fail
  refine (HT.out _ HB1.out).mono ?_
  rintro e w2 ⟨rfl, hb⟩
  have HB2 := Lib.hid (bthen HB1.out hb)
  clear hb k0 l0
  go_wp2
  go_ret2
  exact ⟨rfl, HB2.out⟩
theorem impl_TruthSet_bad (n : Int) (va vu vf : Value) (xs vs : List Int) (zs : List Nd) (w : World) (ha : Sl cI w va xs) (hu : Sl cI w vu vs) (hf : Sl cN w vf zs) (hl : xs.length ≤ 1048576) (hl' : vs.length ≤ 1048576) (hl2 : zs.length ≤ 1048576) (hc : (mdOk n xs vs && isF zs) = false) :
    Calls Tryz.prog 44 #[.agg #[.int .i64 n, va, vu], vf] w fun e w' => e = .returned (.tuple #[.int .i64 0, .int .i64 1]) ∧ Below w.heap.size w w' := by
  have E : mfC n xs vs zs = 1 := by unfold mfC; rw [hc]; rfl
  obtain ⟨A0, c0, rfl⟩ := ha.opn
  obtain ⟨A1, c1, rfl⟩ := hu.opn
  have hb0 := below_alloc' w (.cells #[.int .i64 n, .slice A0 xs.length c0, .slice A1 vs.length c1] 69)
  have HK0 := Lib.hid (Blk.new w 69 #[.int .i64 n, .slice A0 xs.length c0, .slice A1 vs.length c1])
  have HB := Lib.hid hb0
  have HC := Lib.hid (fun W (hW : Below w.heap.size w W) => E ▸ impl_modelCode6 n _ _ vf xs vs zs W (ha.below hW) (hu.below hW) (hf.below hW) hl hl' hl2)
  clear hb0 ha hu hf E hc
  go_enter Tryz.func44, Tryz.ntmps44
  go_upto_region 1 with fail
  generalize World.alloc w _ = W at *
  have k0 := HK0.out.cell
  have l0 := HK0.out.lt
  go_wp2_with fail
  refine (HC.out _ HB.out).mono ?_
  rintro e w1 ⟨rfl, hb⟩
  have HB1 := Lib.hid (bthen HB.out hb)
  clear hb k0 l0
  go_wp2
  go_ret2
  exact ⟨rfl, HB1.out⟩
theorem laws_bit5 (m i : Nat) (w : World) (hm : m < 9223372036854775808) (hi : i < 64) :
    Calls Tryz.prog 47 #[.int .i64 m, .int .i64 i] w fun e w' => e = .returned (.bool (m.testBit i)) ∧ w = w' := by
  have HE := Lib.hid (testBit_form m i hm)
  go_enter Tryz.func47, Tryz.ntmps47
  go_wp2
  rw [HE.out]
  go_ret
  exact ⟨rfl, rfl⟩
end Go.Proofs.YtgcoohlakcncbaaGreat

/- The flags of a frame that posets ask for, of both sides. Written by gen24F.py. -/
import Derived.Test.YtkdldfomdbgcaaaGreat14D
import Derived.Test.YtkdldfomdbgcaaaGreatSB
import Derived.Test.YtkdldfomdbgcaaaGreatSch
import Derived.Test.YtkdldfomdbgcaaaGreatRel
import Derived.Test.YtkdldfomdbgcaaaGreatAN2
namespace Go.Proofs.YtkdldfomdbgcaaaGreat
open Go.RowKit
set_option linter.unusedVariables false
set_option linter.unusedSimpArgs false
theorem impl_sees (ns : List Nat) (A0 : Option Addr) (c0 : Nat) (x y : Nat) (w : World) (h : Sl cI w (.slice A0 ns.length c0) (li ns)) (hr : RelN ns) (hx : x < ns.length) (hy : y ≤ 8) :
    Calls Tryz.prog 149 #[.agg #[.int .i64 ns.length, .slice A0 ns.length c0], .int .i64 x, .int .i64 y] w fun e w' => e = .returned (.bool ((ns.getD x 0).testBit y)) ∧ Below w.heap.size w w' := by
  have hb0 := below_alloc' w (.cells #[.int .i64 ns.length, .slice A0 ns.length c0] 68)
  have HK := Lib.hid (Blk.new w 68 #[.int .i64 ns.length, .slice A0 ns.length c0])
  have HB := Lib.hid hb0
  have LN := Lib.hid (li_length ns)
  have h0 := h.below hb0
  have hm := Nat.lt_of_lt_of_le (getD_lt hr.2 x) (two_pow_256 hr.1)
  obtain ⟨b, o, rfl, hbl, hc0⟩ := (show Sl cI _ (.slice A0 (li ns).length c0) (li ns) by rw [LN.out]; exact h0).atI (k := x) (by rw [LN.out]; exact hx)
  rw [li_get] at hc0
  clear h h0 hb0
  obtain ⟨m, hmm⟩ : ∃ m, ns.getD x 0 = m := ⟨_, rfl⟩
  rw [hmm] at hc0 hm ⊢
  clear hmm
  go_enter Tryz.func149, Tryz.ntmps149
  go_upto_region 1 with fail
  generalize World.alloc w _ = W at *
  have k0 := HK.out.cell
  have l0 := HK.out.lt
  have i1 : (x : Int) < (ns.length : Int) := by omega
  go_wp2_with fail
  refine (impl_has m y _ (by omega) (by omega)).mono ?_
  rintro e w1 ⟨rfl, rfl⟩
  go_wp2
  go_ret
  exact ⟨rfl, HB.out⟩
/- The flags of a frame, of the reference, at 0, 1, 4, 5, 6, 8, 9 and 10. Written by gen14Q.py. -/
/-- three conditions, of a world, of it and one that it sees, of it and two that it sees -/
def t3 (a : List Nat) (P1 : Nat → Bool) (P2 : Nat → Nat → Bool) (P3 : Nat → Nat → Nat → Bool) : Bool :=
  (List.range a.length).all fun x => P1 x && (List.range a.length).all fun y => !(a.getD x 0).testBit y || (P2 x y && (List.range a.length).all fun z => !(a.getD x 0).testBit z || P3 x y z)
theorem all_no {n i : Nat} {f : Nat → Bool} (hi : i < n) (h : f i = false) : (List.range n).all f = false := by
  rw [← Bool.not_eq_true, List.all_eq_true]
  intro hh
  have := hh i (List.mem_range.2 hi)
  rw [h] at this; cases this
theorem all_yes {n : Nat} {f : Nat → Bool} (h : ∀ i, i < n → f i = true) : (List.range n).all f = true := by
  rw [List.all_eq_true]
  exact fun i hi => h i (List.mem_range.1 hi)
theorem i64_and_nat8 (a b : Nat) (ha : a < 256) (hb : b < 256) : bits .and .i64 (a : Int) (b : Int) = ((a &&& b : Nat) : Int) := i64_and_nat a b (by omega) (by omega)
set_option maxHeartbeats 1000000 in
set_option maxRecDepth 100000 in
theorem spec_l05Flag_0 (ns : List Nat) (v : Value) (w : World) (h : Sl cI w v (li ns)) (hr : RelN ns) :
    Calls Tryz.prog 69 #[.agg #[.int .i64 ns.length, v], .int .i64 0] w fun e w' => e = .returned (.bool (t3 ns (fun x => (ns.getD x 0).testBit x) (fun _ _ => true) (fun _ _ _ => true))) ∧ Below w.heap.size w w' := by
  obtain ⟨A, c, rfl⟩ := h.opn
  have h8 := hr.1
  have EL := Lib.hid (li_length ns)
  rw [EL.out] at h ⊢
  have hb0 := below_alloc' w (.cells #[.int .i64 ns.length, .slice A ns.length c] 68)
  have hk0 := Blk.new w 68 #[.int .i64 ns.length, .slice A ns.length c]
  have hkl := hk0.lt
  have HS := Lib.hid (h.below hb0)
  have HB := Lib.hid hb0
  have HX := Lib.hid (fun i => Nat.lt_of_lt_of_le (getD_lt hr.2 i) (two_pow_256 h8))
  obtain ⟨P1, hP1⟩ : ∃ P : Nat → Bool, P = fun x => (ns.getD x 0).testBit x := ⟨_, rfl⟩
  obtain ⟨P2, hP2⟩ : ∃ P : Nat → Nat → Bool, P = fun _ _ => true := ⟨_, rfl⟩
  obtain ⟨P3, hP3⟩ : ∃ P : Nat → Nat → Nat → Bool, P = fun _ _ _ => true := ⟨_, rfl⟩
  obtain ⟨R3, hR3⟩ : ∃ R : Nat → Nat → Nat → Bool, R = fun x y z => !(ns.getD x 0).testBit z || P3 x y z := ⟨_, rfl⟩
  obtain ⟨R2, hR2⟩ : ∃ R : Nat → Nat → Bool, R = fun x y => !(ns.getD x 0).testBit y || (P2 x y && (List.range ns.length).all (R3 x y)) := ⟨_, rfl⟩
  obtain ⟨R1, hR1⟩ : ∃ R : Nat → Bool, R = fun x => P1 x && (List.range ns.length).all (R2 x) := ⟨_, rfl⟩
  have ET : Hid (t3 ns (fun x => (ns.getD x 0).testBit x) (fun _ _ => true) (fun _ _ _ => true) = (List.range ns.length).all R1) := Lib.hid (by rw [hR1, hR2, hR3, hP1, hP2, hP3]; rfl)
  have E1 : Hid (∀ x, R1 x = (P1 x && (List.range ns.length).all (R2 x))) := Lib.hid fun x => by rw [hR1]
  have E2 : Hid (∀ x y, R2 x y = (!(ns.getD x 0).testBit y || (P2 x y && (List.range ns.length).all (R3 x y)))) := Lib.hid fun x y => by rw [hR2]
  have E3 : Hid (∀ x y z, R3 x y z = (!(ns.getD x 0).testBit z || P3 x y z)) := Lib.hid fun x y z => by rw [hR3]
  have EP1 := Lib.hid (congrFun hP1)
  have EP2 := Lib.hid (fun x y => congrFun (congrFun hP2 x) y)
  have EP3 := Lib.hid (fun x y z => congrFun (congrFun (congrFun hP3 x) y) z)
  rw [ET.out]
  clear h hb0 hr hP1 hP2 hP3 hR1 hR2 hR3 ET
  have HN1 : Hid (∀ x, x < ns.length → R1 x = false → (List.range ns.length).all R1 = false) := Lib.hid fun x hx h => all_no hx h
  have HN2 : Hid (∀ x y, x < ns.length → y < ns.length → R2 x y = false → (List.range ns.length).all R1 = false) := Lib.hid fun x y hx hy h => all_no hx (by rw [E1.out, all_no hy h, Bool.and_false])
  have HN3 : Hid (∀ x y z, x < ns.length → y < ns.length → z < ns.length → (ns.getD x 0).testBit y = true → R3 x y z = false → (List.range ns.length).all R1 = false) := Lib.hid fun x y z hx hy hz hb h => all_no hx (by rw [E1.out, all_no hy (by rw [E2.out, all_no hz h, Bool.and_false, hb]; rfl), Bool.and_false])
  have HY1 : Hid ((∀ x, x < ns.length → R1 x = true) → (List.range ns.length).all R1 = true) := Lib.hid all_yes
  have HY2 : Hid (∀ x, P1 x = true → (∀ y, y < ns.length → R2 x y = true) → R1 x = true) := Lib.hid fun x hp h => by rw [E1.out, hp, all_yes h]; rfl
  have HY3 : Hid (∀ x y, P2 x y = true → (∀ z, z < ns.length → R3 x y z = true) → R2 x y = true) := Lib.hid fun x y hp h => by rw [E2.out, hp, all_yes h]; simp
  have HZ2 : Hid (∀ x y, (ns.getD x 0).testBit y = false → R2 x y = true) := Lib.hid fun x y h => by rw [E2.out, h]; rfl
  have HZ3 : Hid (∀ x y z, (ns.getD x 0).testBit z = false → R3 x y z = true) := Lib.hid fun x y z h => by rw [E3.out, h]; rfl
  have HW1 : Hid (∀ x, P1 x = false → R1 x = false) := Lib.hid fun x h => by rw [E1.out, h]; rfl
  have HW2 : Hid (∀ x y, (ns.getD x 0).testBit y = true → P2 x y = false → R2 x y = false) := Lib.hid fun x y hb h => by rw [E2.out, hb, h]; rfl
  have HW3 : Hid (∀ x y z, (ns.getD x 0).testBit z = true → P3 x y z = false → R3 x y z = false) := Lib.hid fun x y z hb h => by rw [E3.out, hb, h]; rfl
  have HV3 : Hid (∀ x y z, P3 x y z = true → R3 x y z = true) := Lib.hid fun x y z h => by rw [E3.out, h]; simp
  clear E1 E2 E3
  generalize (List.range ns.length).all R1 = RES at *
  go_enter Tryz.func69, Tryz.ntmps69
  go_upto_region 1 with fail
  generalize w.alloc (.cells #[.int .i64 (ns.length : Int), .slice A ns.length c] 68) = W0 at *
  have d0 : W0.cell? ⟨w.heap.size, 0, none⟩ = some (.int .i64 ns.length) := hk0.cell 0
  have d1 : W0.cell? ⟨w.heap.size, 1, none⟩ = some (.slice A ns.length c) := hk0.cell 1
  clear hk0
  go_quiet (fail)
  clear d0 d1
  go_wp2
  go_loopw [7] (fun x wr => ∃ j : Nat, j ≤ ns.length ∧ x = .int .i64 j ∧ (∀ x, x < j → R1 x = true) ∧ Below W0.heap.size W0 wr) (fun x _ => ns.length - (intOf x).toNat)
  case atStart => exact ⟨0, Nat.zero_le _, rfl, fun i hi => by omega, below_drewN (Below.refl _ _) _⟩
  case round =>
    obtain ⟨x, hx, rfl, hh, hb⟩ := hrel
    have HH := Lib.hid hh
    clear hh
    by_cases hxl : x < ns.length
    · have hx' : x < (li ns).length := by rw [EL.out]; exact hxl
      obtain ⟨b, o, rfl, hbl, hc0⟩ := (HS.out.below hb).atI hx'
      rw [li_get] at hc0
      have HA : Hid (∀ W, Below W0.heap.size W0 W → ∀ z, z < ns.length → W.cell? ⟨b, o + z, none⟩ = some (.int .i64 (ns.getD z 0 : Nat))) := Lib.hid (fun W hW z hz => by
        obtain ⟨b', o', hbo, -, hc⟩ := (HS.out.below hW).atI (k := z) (by rw [EL.out]; exact hz)
        injection hbo with hbo
        injection hbo with e1 e2
        subst e1
        subst e2
        rw [li_get] at hc
        exact hc)
      have hm := HX.out x
      have HBx := Lib.hid hb
      obtain ⟨m, hmm⟩ : ∃ m, ns.getD x 0 = m := ⟨_, rfl⟩
      have hp1 := EP1.out x
      rw [hmm] at hc0 hm
      try rw [hmm] at hp1
      have HMM := Lib.hid hmm
      clear hb hmm
      cases ht : m.testBit x
      · have EF : Hid (RES = false) := Lib.hid (HN1.out x hxl (HW1.out x (by rw [hp1, ht])))
        go_wp2_with fail
        refine (spec_l01Bit m x _ (by omega) (by omega)).mono ?_
        rintro e w3 ⟨rfl, rfl⟩
        rw [ht]
        clear ht hc0 hp1
        go_wp2
        go_ret
        exact ⟨by rw [EF.out]; rfl, HB.out.trans ((HBx.out).mono HB.out.size)⟩
      have HP1 : Hid (P1 x = true) := Lib.hid (by rw [hp1, ht])
      go_wp2_with fail
      refine (spec_l01Bit m x _ (by omega) (by omega)).mono ?_
      rintro e w3 ⟨rfl, rfl⟩
      rw [ht]
      clear ht hc0 hp1
      go_wp2
      go_loopw [8] (fun y wq => ∃ j : Nat, j ≤ ns.length ∧ y = .int .i64 j ∧ (∀ y, y < j → R2 x y = true) ∧ Below W0.heap.size W0 wq) (fun y _ => ns.length - (intOf y).toNat)
      case atStart => exact ⟨0, Nat.zero_le _, rfl, fun y hy => by omega, HBx.out⟩
      case round =>
        obtain ⟨y, hy, rfl, hh, hb⟩ := hrel
        have HG := Lib.hid hh
        have HBr := Lib.hid hb
        clear hh
        by_cases hyl : y < ns.length
        · have hcx := HA.out _ hb x hxl
          have hcy := HA.out _ hb y hyl
          rw [HMM.out] at hcx
          have hr2 := HX.out y
          have hp2 := EP2.out x y
          have HZy := Lib.hid (HZ2.out x y)
          have HWy := Lib.hid (HW2.out x y)
          rw [HMM.out] at HZy HWy
          try rw [HMM.out] at hp2
          obtain ⟨r, hrr⟩ : ∃ r, ns.getD y 0 = r := ⟨_, rfl⟩
          rw [hrr] at hcy hr2
          try rw [hrr] at hp2
          have HRR := Lib.hid hrr
          clear hb hrr
          have HGn : Hid (R2 x y = true → ∀ z, z < y + 1 → R2 x z = true) := Lib.hid (fun h z hz => (Nat.lt_or_ge z y).elim (fun h => HG.out z h) (fun h2 => (show z = y by omega) ▸ h))
          have HZn := Lib.hid (fun z (hz : z < ns.length) ht => HN3.out x y z hxl hyl hz (by rw [HMM.out]; exact ht))
          go_wp2_with fail
          refine (spec_l01Bit m y _ (by omega) (by omega)).mono ?_
          rintro e w3 ⟨rfl, rfl⟩
          cases ht : m.testBit y
          · have HG2 := Lib.hid (HGn.out (HZy.out ht))
            clear ht hcx hcy hp2
            go_wp2
            go_roundw
            case rel => exact ⟨y + 1, by omega, by go_num, HG2.out, HBr.out⟩
            case measure => simp [intOf]; omega
          have HZn2 := Lib.hid (fun z hz => HZn.out z hz ht)
          have HP2 : Hid (P2 x y = true) := Lib.hid hp2
          clear ht hcx hcy hp2
          go_wp2
          go_loopw [9] (fun z wq => ∃ j : Nat, j ≤ ns.length ∧ z = .int .i64 j ∧ (∀ z, z < j → R3 x y z = true) ∧ Below W0.heap.size W0 wq) (fun z _ => ns.length - (intOf z).toNat)
          case atStart => exact ⟨0, Nat.zero_le _, rfl, fun z hz => by omega, HBr.out⟩
          case round =>
            obtain ⟨z, hz, rfl, hh, hb⟩ := hrel
            have HF := Lib.hid hh
            have HBz := Lib.hid hb
            clear hh
            by_cases hzl : z < ns.length
            · have hcx := HA.out _ hb x hxl
              have hcy := HA.out _ hb y hyl
              have hcz := HA.out _ hb z hzl
              rw [HMM.out] at hcx
              rw [HRR.out] at hcy
              have hs2 := HX.out z
              have hp3 := EP3.out x y z
              have HZz := Lib.hid (HZ3.out x y z)
              have HWz := Lib.hid (HW3.out x y z)
              have HVz := Lib.hid (HV3.out x y z)
              rw [HMM.out] at HZz HWz
              try rw [HRR.out] at hp3
              obtain ⟨s, hss⟩ : ∃ s, ns.getD z 0 = s := ⟨_, rfl⟩
              rw [hss] at hcz hs2
              try rw [hss] at hp3
              clear hss hb
              have HFn : Hid (R3 x y z = true → ∀ i, i < z + 1 → R3 x y i = true) := Lib.hid (fun h i hi => (Nat.lt_or_ge i z).elim (fun h => HF.out i h) (fun h2 => (show i = z by omega) ▸ h))
              go_wp2_with fail
              refine (spec_l01Bit m z _ (by omega) (by omega)).mono ?_
              rintro e w3 ⟨rfl, rfl⟩
              cases ht : m.testBit z
              · have HF2 := Lib.hid (HFn.out (HZz.out ht))
                clear ht hcx hcy hcz hp3
                go_wp2
                go_roundw
                case rel => exact ⟨z + 1, by omega, by go_num, HF2.out, HBz.out⟩
                case measure => simp [intOf]; omega
              have HF2 := Lib.hid (HFn.out (HVz.out hp3))
              clear ht hcx hcy hcz hp3
              go_wp2
              go_quiet (fail)
              go_wp2
              go_roundw
              case rel => exact ⟨z + 1, by omega, by go_num, HF2.out, below_drewN HBz.out _⟩
              case measure => simp [intOf]; omega
            · obtain rfl : z = ns.length := by omega
              have HG2 := Lib.hid (HGn.out (HY3.out x y HP2.out HF.out))
              clear hb
              go_wp2
              go_roundw
              case rel => exact ⟨y + 1, by omega, by go_num, HG2.out, HBz.out⟩
              case measure => simp [intOf]; omega
        · obtain rfl : y = ns.length := by omega
          have HH2 : Hid (∀ z, z < x + 1 → R1 z = true) := Lib.hid (fun z hz => (Nat.lt_or_ge z x).elim (fun h => HH.out z h) (fun h => (show z = x by omega) ▸ HY2.out x HP1.out HG.out))
          clear hb
          go_wp2
          go_roundw
          case rel => exact ⟨x + 1, by omega, by go_num, HH2.out, HBr.out⟩
          case measure => simp [intOf]; omega
    · obtain rfl : x = ns.length := by omega
      have EF : Hid (RES = true) := Lib.hid (HY1.out HH.out)
      have HBx := Lib.hid hb
      clear hb
      go_wp2
      go_ret
      exact ⟨by rw [EF.out]; rfl, HB.out.trans ((HBx.out).mono HB.out.size)⟩
set_option maxHeartbeats 1000000 in
set_option maxRecDepth 100000 in
theorem spec_l05Flag_8 (ns : List Nat) (v : Value) (w : World) (h : Sl cI w v (li ns)) (hr : RelN ns) :
    Calls Tryz.prog 69 #[.agg #[.int .i64 ns.length, v], .int .i64 8] w fun e w' => e = .returned (.bool (t3 ns (fun _ => true) (fun x y => !(!decide (x = y) && (ns.getD y 0).testBit x)) (fun _ _ _ => true))) ∧ Below w.heap.size w w' := by
  obtain ⟨A, c, rfl⟩ := h.opn
  have h8 := hr.1
  have EL := Lib.hid (li_length ns)
  rw [EL.out] at h ⊢
  have hb0 := below_alloc' w (.cells #[.int .i64 ns.length, .slice A ns.length c] 68)
  have hk0 := Blk.new w 68 #[.int .i64 ns.length, .slice A ns.length c]
  have hkl := hk0.lt
  have HS := Lib.hid (h.below hb0)
  have HB := Lib.hid hb0
  have HX := Lib.hid (fun i => Nat.lt_of_lt_of_le (getD_lt hr.2 i) (two_pow_256 h8))
  obtain ⟨P1, hP1⟩ : ∃ P : Nat → Bool, P = fun _ => true := ⟨_, rfl⟩
  obtain ⟨P2, hP2⟩ : ∃ P : Nat → Nat → Bool, P = fun x y => !(!decide (x = y) && (ns.getD y 0).testBit x) := ⟨_, rfl⟩
  obtain ⟨P3, hP3⟩ : ∃ P : Nat → Nat → Nat → Bool, P = fun _ _ _ => true := ⟨_, rfl⟩
  obtain ⟨R3, hR3⟩ : ∃ R : Nat → Nat → Nat → Bool, R = fun x y z => !(ns.getD x 0).testBit z || P3 x y z := ⟨_, rfl⟩
  obtain ⟨R2, hR2⟩ : ∃ R : Nat → Nat → Bool, R = fun x y => !(ns.getD x 0).testBit y || (P2 x y && (List.range ns.length).all (R3 x y)) := ⟨_, rfl⟩
  obtain ⟨R1, hR1⟩ : ∃ R : Nat → Bool, R = fun x => P1 x && (List.range ns.length).all (R2 x) := ⟨_, rfl⟩
  have ET : Hid (t3 ns (fun _ => true) (fun x y => !(!decide (x = y) && (ns.getD y 0).testBit x)) (fun _ _ _ => true) = (List.range ns.length).all R1) := Lib.hid (by rw [hR1, hR2, hR3, hP1, hP2, hP3]; rfl)
  have E1 : Hid (∀ x, R1 x = (P1 x && (List.range ns.length).all (R2 x))) := Lib.hid fun x => by rw [hR1]
  have E2 : Hid (∀ x y, R2 x y = (!(ns.getD x 0).testBit y || (P2 x y && (List.range ns.length).all (R3 x y)))) := Lib.hid fun x y => by rw [hR2]
  have E3 : Hid (∀ x y z, R3 x y z = (!(ns.getD x 0).testBit z || P3 x y z)) := Lib.hid fun x y z => by rw [hR3]
  have EP1 := Lib.hid (congrFun hP1)
  have EP2 := Lib.hid (fun x y => congrFun (congrFun hP2 x) y)
  have EP3 := Lib.hid (fun x y z => congrFun (congrFun (congrFun hP3 x) y) z)
  rw [ET.out]
  clear h hb0 hr hP1 hP2 hP3 hR1 hR2 hR3 ET
  have HN1 : Hid (∀ x, x < ns.length → R1 x = false → (List.range ns.length).all R1 = false) := Lib.hid fun x hx h => all_no hx h
  have HN2 : Hid (∀ x y, x < ns.length → y < ns.length → R2 x y = false → (List.range ns.length).all R1 = false) := Lib.hid fun x y hx hy h => all_no hx (by rw [E1.out, all_no hy h, Bool.and_false])
  have HN3 : Hid (∀ x y z, x < ns.length → y < ns.length → z < ns.length → (ns.getD x 0).testBit y = true → R3 x y z = false → (List.range ns.length).all R1 = false) := Lib.hid fun x y z hx hy hz hb h => all_no hx (by rw [E1.out, all_no hy (by rw [E2.out, all_no hz h, Bool.and_false, hb]; rfl), Bool.and_false])
  have HY1 : Hid ((∀ x, x < ns.length → R1 x = true) → (List.range ns.length).all R1 = true) := Lib.hid all_yes
  have HY2 : Hid (∀ x, P1 x = true → (∀ y, y < ns.length → R2 x y = true) → R1 x = true) := Lib.hid fun x hp h => by rw [E1.out, hp, all_yes h]; rfl
  have HY3 : Hid (∀ x y, P2 x y = true → (∀ z, z < ns.length → R3 x y z = true) → R2 x y = true) := Lib.hid fun x y hp h => by rw [E2.out, hp, all_yes h]; simp
  have HZ2 : Hid (∀ x y, (ns.getD x 0).testBit y = false → R2 x y = true) := Lib.hid fun x y h => by rw [E2.out, h]; rfl
  have HZ3 : Hid (∀ x y z, (ns.getD x 0).testBit z = false → R3 x y z = true) := Lib.hid fun x y z h => by rw [E3.out, h]; rfl
  have HW1 : Hid (∀ x, P1 x = false → R1 x = false) := Lib.hid fun x h => by rw [E1.out, h]; rfl
  have HW2 : Hid (∀ x y, (ns.getD x 0).testBit y = true → P2 x y = false → R2 x y = false) := Lib.hid fun x y hb h => by rw [E2.out, hb, h]; rfl
  have HW3 : Hid (∀ x y z, (ns.getD x 0).testBit z = true → P3 x y z = false → R3 x y z = false) := Lib.hid fun x y z hb h => by rw [E3.out, hb, h]; rfl
  have HV3 : Hid (∀ x y z, P3 x y z = true → R3 x y z = true) := Lib.hid fun x y z h => by rw [E3.out, h]; simp
  clear E1 E2 E3
  generalize (List.range ns.length).all R1 = RES at *
  go_enter Tryz.func69, Tryz.ntmps69
  go_upto_region 1 with fail
  generalize w.alloc (.cells #[.int .i64 (ns.length : Int), .slice A ns.length c] 68) = W0 at *
  have d0 : W0.cell? ⟨w.heap.size, 0, none⟩ = some (.int .i64 ns.length) := hk0.cell 0
  have d1 : W0.cell? ⟨w.heap.size, 1, none⟩ = some (.slice A ns.length c) := hk0.cell 1
  clear hk0
  go_quiet (fail)
  clear d0 d1
  go_wp2
  go_loopw [7] (fun x wr => ∃ j : Nat, j ≤ ns.length ∧ x = .int .i64 j ∧ (∀ x, x < j → R1 x = true) ∧ Below W0.heap.size W0 wr) (fun x _ => ns.length - (intOf x).toNat)
  case atStart => exact ⟨0, Nat.zero_le _, rfl, fun i hi => by omega, below_drewN (Below.refl _ _) _⟩
  case round =>
    obtain ⟨x, hx, rfl, hh, hb⟩ := hrel
    have HH := Lib.hid hh
    clear hh
    by_cases hxl : x < ns.length
    · have hx' : x < (li ns).length := by rw [EL.out]; exact hxl
      obtain ⟨b, o, rfl, hbl, hc0⟩ := (HS.out.below hb).atI hx'
      rw [li_get] at hc0
      have HA : Hid (∀ W, Below W0.heap.size W0 W → ∀ z, z < ns.length → W.cell? ⟨b, o + z, none⟩ = some (.int .i64 (ns.getD z 0 : Nat))) := Lib.hid (fun W hW z hz => by
        obtain ⟨b', o', hbo, -, hc⟩ := (HS.out.below hW).atI (k := z) (by rw [EL.out]; exact hz)
        injection hbo with hbo
        injection hbo with e1 e2
        subst e1
        subst e2
        rw [li_get] at hc
        exact hc)
      have hm := HX.out x
      have HBx := Lib.hid hb
      obtain ⟨m, hmm⟩ : ∃ m, ns.getD x 0 = m := ⟨_, rfl⟩
      have hp1 := EP1.out x
      rw [hmm] at hc0 hm
      try rw [hmm] at hp1
      have HMM := Lib.hid hmm
      clear hb hmm
      have HP1 : Hid (P1 x = true) := Lib.hid hp1
      clear hp1
      go_wp2
      go_loopw [8] (fun y wq => ∃ j : Nat, j ≤ ns.length ∧ y = .int .i64 j ∧ (∀ y, y < j → R2 x y = true) ∧ Below W0.heap.size W0 wq) (fun y _ => ns.length - (intOf y).toNat)
      case atStart => exact ⟨0, Nat.zero_le _, rfl, fun y hy => by omega, HBx.out⟩
      case round =>
        obtain ⟨y, hy, rfl, hh, hb⟩ := hrel
        have HG := Lib.hid hh
        have HBr := Lib.hid hb
        clear hh
        by_cases hyl : y < ns.length
        · have hcx := HA.out _ hb x hxl
          have hcy := HA.out _ hb y hyl
          rw [HMM.out] at hcx
          have hr2 := HX.out y
          have hp2 := EP2.out x y
          have HZy := Lib.hid (HZ2.out x y)
          have HWy := Lib.hid (HW2.out x y)
          rw [HMM.out] at HZy HWy
          try rw [HMM.out] at hp2
          obtain ⟨r, hrr⟩ : ∃ r, ns.getD y 0 = r := ⟨_, rfl⟩
          rw [hrr] at hcy hr2
          try rw [hrr] at hp2
          have HRR := Lib.hid hrr
          clear hb hrr
          have HGn : Hid (R2 x y = true → ∀ z, z < y + 1 → R2 x z = true) := Lib.hid (fun h z hz => (Nat.lt_or_ge z y).elim (fun h => HG.out z h) (fun h2 => (show z = y by omega) ▸ h))
          have HZn := Lib.hid (fun z (hz : z < ns.length) ht => HN3.out x y z hxl hyl hz (by rw [HMM.out]; exact ht))
          go_wp2_with fail
          refine (spec_l01Bit m y _ (by omega) (by omega)).mono ?_
          rintro e w3 ⟨rfl, rfl⟩
          cases ht : m.testBit y
          · have HG2 := Lib.hid (HGn.out (HZy.out ht))
            clear ht hcx hcy hp2
            go_wp2
            go_roundw
            case rel => exact ⟨y + 1, by omega, by go_num, HG2.out, HBr.out⟩
            case measure => simp [intOf]; omega
          have HZn2 := Lib.hid (fun z hz => HZn.out z hz ht)
          by_cases hxy : x = y
          · have HP2 : Hid (P2 x y = true) := Lib.hid (by rw [hp2, decide_eq_true hxy]; rfl)
            have hd : (((x : Nat) : Int) != ((y : Nat) : Int)) = false := by subst hxy; simp
            clear ht hp2 hxy
            go_wp2
            go_loopw [9] (fun z wq => ∃ j : Nat, j ≤ ns.length ∧ z = .int .i64 j ∧ (∀ z, z < j → R3 x y z = true) ∧ Below W0.heap.size W0 wq) (fun z _ => ns.length - (intOf z).toNat)
            case atStart => exact ⟨0, Nat.zero_le _, rfl, fun z hz => by omega, HBr.out⟩
            case round =>
              obtain ⟨z, hz, rfl, hh, hb⟩ := hrel
              have HF := Lib.hid hh
              have HBz := Lib.hid hb
              clear hh
              by_cases hzl : z < ns.length
              · have hcx := HA.out _ hb x hxl
                have hcy := HA.out _ hb y hyl
                have hcz := HA.out _ hb z hzl
                rw [HMM.out] at hcx
                rw [HRR.out] at hcy
                have hs2 := HX.out z
                have hp3 := EP3.out x y z
                have HZz := Lib.hid (HZ3.out x y z)
                have HWz := Lib.hid (HW3.out x y z)
                have HVz := Lib.hid (HV3.out x y z)
                rw [HMM.out] at HZz HWz
                try rw [HRR.out] at hp3
                obtain ⟨s, hss⟩ : ∃ s, ns.getD z 0 = s := ⟨_, rfl⟩
                rw [hss] at hcz hs2
                try rw [hss] at hp3
                clear hss hb
                have HFn : Hid (R3 x y z = true → ∀ i, i < z + 1 → R3 x y i = true) := Lib.hid (fun h i hi => (Nat.lt_or_ge i z).elim (fun h => HF.out i h) (fun h2 => (show i = z by omega) ▸ h))
                go_wp2_with fail
                refine (spec_l01Bit m z _ (by omega) (by omega)).mono ?_
                rintro e w3 ⟨rfl, rfl⟩
                cases ht : m.testBit z
                · have HF2 := Lib.hid (HFn.out (HZz.out ht))
                  clear ht hcx hcy hcz hp3
                  go_wp2
                  go_roundw
                  case rel => exact ⟨z + 1, by omega, by go_num, HF2.out, HBz.out⟩
                  case measure => simp [intOf]; omega
                have HF2 := Lib.hid (HFn.out (HVz.out hp3))
                clear ht hcx hcy hcz hp3
                go_wp2
                go_quiet (fail)
                go_wp2
                go_roundw
                case rel => exact ⟨z + 1, by omega, by go_num, HF2.out, below_drewN HBz.out _⟩
                case measure => simp [intOf]; omega
              · obtain rfl : z = ns.length := by omega
                have HG2 := Lib.hid (HGn.out (HY3.out x y HP2.out HF.out))
                clear hb
                go_wp2
                go_roundw
                case rel => exact ⟨y + 1, by omega, by go_num, HG2.out, HBz.out⟩
                case measure => simp [intOf]; omega
          have hd : (((x : Nat) : Int) != ((y : Nat) : Int)) = true := by simp; omega
          cases hu : r.testBit x
          rotate_left
          · have EF : Hid (RES = false) := Lib.hid (HN2.out x y hxl hyl (HWy.out ht (by rw [hp2, decide_eq_false hxy, hu]; rfl)))
            clear ht hxy hp2
            go_wp2_with fail
            refine (spec_l01Bit r x _ (by omega) (by omega)).mono ?_
            rintro e w4 ⟨rfl, rfl⟩
            rw [hu]
            clear hu hcx hcy
            go_wp2
            go_ret
            exact ⟨by rw [EF.out]; rfl, HB.out.trans ((HBr.out).mono HB.out.size)⟩
          have HP2 : Hid (P2 x y = true) := Lib.hid (by rw [hp2, decide_eq_false hxy, hu]; rfl)
          clear ht hxy hp2
          go_wp2_with fail
          refine (spec_l01Bit r x _ (by omega) (by omega)).mono ?_
          rintro e w4 ⟨rfl, rfl⟩
          rw [hu]
          clear hu hcx hcy
          go_wp2
          go_loopw [9] (fun z wq => ∃ j : Nat, j ≤ ns.length ∧ z = .int .i64 j ∧ (∀ z, z < j → R3 x y z = true) ∧ Below W0.heap.size W0 wq) (fun z _ => ns.length - (intOf z).toNat)
          case atStart => exact ⟨0, Nat.zero_le _, rfl, fun z hz => by omega, HBr.out⟩
          case round =>
            obtain ⟨z, hz, rfl, hh, hb⟩ := hrel
            have HF := Lib.hid hh
            have HBz := Lib.hid hb
            clear hh
            by_cases hzl : z < ns.length
            · have hcx := HA.out _ hb x hxl
              have hcy := HA.out _ hb y hyl
              have hcz := HA.out _ hb z hzl
              rw [HMM.out] at hcx
              rw [HRR.out] at hcy
              have hs2 := HX.out z
              have hp3 := EP3.out x y z
              have HZz := Lib.hid (HZ3.out x y z)
              have HWz := Lib.hid (HW3.out x y z)
              have HVz := Lib.hid (HV3.out x y z)
              rw [HMM.out] at HZz HWz
              try rw [HRR.out] at hp3
              obtain ⟨s, hss⟩ : ∃ s, ns.getD z 0 = s := ⟨_, rfl⟩
              rw [hss] at hcz hs2
              try rw [hss] at hp3
              clear hss hb
              have HFn : Hid (R3 x y z = true → ∀ i, i < z + 1 → R3 x y i = true) := Lib.hid (fun h i hi => (Nat.lt_or_ge i z).elim (fun h => HF.out i h) (fun h2 => (show i = z by omega) ▸ h))
              go_wp2_with fail
              refine (spec_l01Bit m z _ (by omega) (by omega)).mono ?_
              rintro e w3 ⟨rfl, rfl⟩
              cases ht : m.testBit z
              · have HF2 := Lib.hid (HFn.out (HZz.out ht))
                clear ht hcx hcy hcz hp3
                go_wp2
                go_roundw
                case rel => exact ⟨z + 1, by omega, by go_num, HF2.out, HBz.out⟩
                case measure => simp [intOf]; omega
              have HF2 := Lib.hid (HFn.out (HVz.out hp3))
              clear ht hcx hcy hcz hp3
              go_wp2
              go_quiet (fail)
              go_wp2
              go_roundw
              case rel => exact ⟨z + 1, by omega, by go_num, HF2.out, below_drewN HBz.out _⟩
              case measure => simp [intOf]; omega
            · obtain rfl : z = ns.length := by omega
              have HG2 := Lib.hid (HGn.out (HY3.out x y HP2.out HF.out))
              clear hb
              go_wp2
              go_roundw
              case rel => exact ⟨y + 1, by omega, by go_num, HG2.out, HBz.out⟩
              case measure => simp [intOf]; omega
        · obtain rfl : y = ns.length := by omega
          have HH2 : Hid (∀ z, z < x + 1 → R1 z = true) := Lib.hid (fun z hz => (Nat.lt_or_ge z x).elim (fun h => HH.out z h) (fun h => (show z = x by omega) ▸ HY2.out x HP1.out HG.out))
          clear hb
          go_wp2
          go_roundw
          case rel => exact ⟨x + 1, by omega, by go_num, HH2.out, HBr.out⟩
          case measure => simp [intOf]; omega
    · obtain rfl : x = ns.length := by omega
      have EF : Hid (RES = true) := Lib.hid (HY1.out HH.out)
      have HBx := Lib.hid hb
      clear hb
      go_wp2
      go_ret
      exact ⟨by rw [EF.out]; rfl, HB.out.trans ((HBx.out).mono HB.out.size)⟩
/- hasFlag of the program at 0, 1, 4, 5, 6, 8, 9 and 10. Written by gen14G.py. -/
/-- what the conditions read: a frame's box, the box of the inverse, both lists -/
structure Bx (W : World) (F B : Nat) (ns : List Nat) (A A1 : Option Addr) (c c1 : Nat) : Prop where
  f0 : W.cell? ⟨F, 0, none⟩ = some (.int .i64 ns.length)
  f1 : W.cell? ⟨F, 1, none⟩ = some (.slice A ns.length c)
  fl : F < W.heap.size
  b0 : W.cell? ⟨B, 0, none⟩ = some (.slice A1 ns.length c1)
  bl : B < W.heap.size
  a : Sl cI W (.slice A ns.length c) (li ns)
  b : Sl cI W (.slice A1 ns.length c1) (li (inv ns))
theorem Bx.below {W W' : World} {F B : Nat} {ns : List Nat} {A A1 : Option Addr} {c c1 : Nat} (h : Bx W F B ns A A1 c c1) (hb : Below W.heap.size W W') : Bx W' F B ns A A1 c c1 :=
  ⟨(hb.cell (p := ⟨F, 0, none⟩) h.fl).trans h.f0, (hb.cell (p := ⟨F, 1, none⟩) h.fl).trans h.f1, Nat.lt_of_lt_of_le h.fl hb.size, (hb.cell (p := ⟨B, 0, none⟩) h.bl).trans h.b0, Nat.lt_of_lt_of_le h.bl hb.size, h.a.below hb, h.b.below hb⟩
theorem inv_256 (ns : List Nat) (hr : RelN ns) (i : Nat) : (inv ns).getD i 0 < 256 := Nat.lt_of_lt_of_le (getD_lt (lnk_lt _ _ _) i) (two_pow_256 hr.1)
theorem rel_256 (ns : List Nat) (hr : RelN ns) (i : Nat) : ns.getD i 0 < 256 := Nat.lt_of_lt_of_le (getD_lt hr.2 i) (two_pow_256 hr.1)
theorem q_within {a b : Nat} (ha : a < 9223372036854775808) (hb : b < 9223372036854775808) (W : World) (n : Nat) :
    Calls Tryz.prog 159 #[.int .i64 a, .int .i64 b] (W.drewN n) fun e w'' => e = .returned (.bool (decide (andnot a b = 0))) ∧ ∃ m, w'' = W.drewN m :=
  (impl_within a b _ ha hb).mono fun e w' hh => ⟨hh.1, n, hh.2.symm⟩
theorem en_hasFlag_114 : ∀ (args : Array Value) (w : World), (callFunc 148 args).run Tryz.prog w = .ok (.enter 148 args) w := enters Tryz.func148 (by kernel_rfl) (by kernel_rfl)
theorem impl_cond_1 (x y z : Nat) (F B : Nat) (ns : List Nat) (A A1 : Option Addr) (c c1 : Nat) (W : World) (h : Bx W F B ns A A1 c c1) (hr : RelN ns) (hx : x < ns.length) (hy : y < ns.length) (hz : z < ns.length) :
    Calls Tryz.prog 148 #[.int .i64 x, .pointer (some ⟨F, 0, none⟩)] W fun e w' => e = .returned (.bool ((ns.getD x 0).testBit x)) ∧ Below W.heap.size W w' := by
  have h8 := hr.1
  have f0 := h.f0
  have f1 := h.f1
  have fl := h.fl
  have HSe := Lib.hid (fun X hX => impl_sees ns A c x x X (h.a.below (hX : Below W.heap.size W X)) hr hx (by omega))
  generalize (ns.getD x 0).testBit x = r at *
  clear h
  go_enter Tryz.func148, Tryz.ntmps148
  go_wp2_with fail
  refine (HSe.out _ (Below.refl _ _)).mono ?_
  rintro e w2 ⟨rfl, hb⟩
  have HB := Lib.hid hb
  clear hb f0 f1
  go_wp2
  go_ret
  exact ⟨rfl, HB.out⟩
theorem en_hasFlag_714 : ∀ (args : Array Value) (w : World), (callFunc 158 args).run Tryz.prog w = .ok (.enter 158 args) w := enters Tryz.func158 (by kernel_rfl) (by kernel_rfl)
theorem impl_cond_7 (x y z : Nat) (F B : Nat) (ns : List Nat) (A A1 : Option Addr) (c c1 : Nat) (W : World) (h : Bx W F B ns A A1 c c1) (hr : RelN ns) (hx : x < ns.length) (hy : y < ns.length) (hz : z < ns.length) :
    Calls Tryz.prog 158 #[.int .i64 x, .pointer (some ⟨F, 0, none⟩), .pointer (some ⟨B, 0, none⟩)] W fun e w' => e = .returned (.bool (decide (andnot (ns.getD x 0 &&& (inv ns).getD x 0) (2 ^ x) = 0))) ∧ Below W.heap.size W w' := by
  have h8 := hr.1
  have f0 := h.f0
  have f1 := h.f1
  have fl := h.fl
  have b0 := h.b0
  have bl := h.bl
  obtain ⟨bp, op, ep, hbp, hcp⟩ := h.a.atI (k := x) (by rw [li_length]; exact hx)
  rw [li_get] at hcp
  obtain ⟨bq, oq, eq, hbq, hcq⟩ := h.b.atI (k := x) (by rw [li_length, inv_length]; exact hx)
  rw [li_get] at hcq
  subst ep
  subst eq
  have q1 := rel_256 ns hr x
  have q2 := inv_256 ns hr x
  generalize ns.getD x 0 = m at *
  generalize (inv ns).getD x 0 = r at *
  have e1 := i64_and_nat8 m r q1 q2
  have hwm : (m &&& r) < 256 := Nat.lt_of_le_of_lt Nat.and_le_left q1
  have hw : wrap64 ((2 : Int) ^ x) = 2 ^ x := wrap_two_pow (by omega)
  have hw2 : IntKind.i64.wrap ((2 : Int) ^ x) = 2 ^ x := by rw [wrap_two_pow'' (by omega), cast_two_pow]
  have HQ : Hid (∀ n, Calls Tryz.prog 159 #[.int .i64 (m &&& r : Nat), .int .i64 (2 ^ x)] (W.drewN n) fun e w'' => e = .returned (.bool (decide (andnot (m &&& r) (2 ^ x) = 0))) ∧ ∃ m, w'' = W.drewN m) := Lib.hid fun n => by
    have := q_within (a := m &&& r) (b := 2 ^ x) (by omega) (two_pow_lt (by omega)) W n
    rwa [← cast_two_pow] at this
  generalize m &&& r = q at *
  generalize decide (andnot q (2 ^ x) = 0) = zz at *
  have hx64 : x < 64 := by omega
  clear h
  go_enter Tryz.func158, Tryz.ntmps158
  go_upto_region 1 with fail
  go_quiet ((go_at_call 159; exact HQ.out _))
  go_wp2
  go_ret
  exact ⟨rfl, below_drewN (Below.refl _ _) _⟩
/- hasFlag of the program, in the reference's words. Written by gen14H.py. -/
theorem t3_one (ns : List Nat) (P1 : Nat → Bool) : t3 ns P1 (fun _ _ => true) (fun _ _ _ => true) = (List.range ns.length).all P1 := by
  unfold t3
  congr 1
  funext x
  simp
theorem all_range_congr {n : Nat} {f g : Nat → Bool} (h : ∀ x, x < n → f x = g x) : (List.range n).all f = (List.range n).all g := by
  rw [Bool.eq_iff_iff, List.all_eq_true, List.all_eq_true]
  exact ⟨fun hh x hx => by rw [← h x (List.mem_range.1 hx)]; exact hh x hx, fun hh x hx => by rw [h x (List.mem_range.1 hx)]; exact hh x hx⟩
theorem f4_eq (ns : List Nat) (hr : RelN ns) : t3 ns (fun _ => true) (fun _ _ => true) (fun _ y z => (ns.getD y 0).testBit z) = t3 ns (fun _ => true) (fun x y => decide (andnot (ns.getD x 0) (ns.getD y 0) = 0)) (fun _ _ _ => true) := by
  unfold t3
  refine all_range_congr fun x hx => ?_
  simp only [Bool.true_and]
  refine all_range_congr fun y hy => ?_
  congr 1
  have e : ((List.range ns.length).all fun z => !(ns.getD x 0).testBit z || true) = true := by simp
  rw [e, Bool.and_true, Bool.eq_iff_iff, List.all_eq_true, decide_eq_true_eq, andnot_zero]
  constructor
  · intro h i hi
    have := h i (List.mem_range.2 (bit_lt (getD_lt hr.2 x) hi))
    rw [hi] at this
    simpa using this
  · intro h i _
    cases hb : (ns.getD x 0).testBit i
    · rfl
    · rw [h i hb]; rfl
theorem f9_eq (ns : List Nat) (hr : RelN ns) (p : Nat → Nat → Bool) : t3 ns (fun _ => true) (fun _ _ => true) (fun x y _ => p x y) = t3 ns (fun _ => true) p (fun _ _ _ => true) := by
  unfold t3
  refine all_range_congr fun x hx => ?_
  simp only [Bool.true_and]
  refine all_range_congr fun y hy => ?_
  have e : ((List.range ns.length).all fun z => !(ns.getD x 0).testBit z || true) = true := by simp
  rw [e, Bool.and_true]
  cases hb : (ns.getD x 0).testBit y
  · rfl
  · simp only [Bool.not_true, Bool.false_or]
    cases hp : p x y
    · exact all_no (f := fun z => !(ns.getD x 0).testBit z || false) hy (by simp only [hb]; rfl)
    · simp
theorem f8_eq (ns : List Nat) (hr : RelN ns) : ((List.range ns.length).all fun x => decide (andnot (ns.getD x 0 &&& (inv ns).getD x 0) (2 ^ x) = 0)) = t3 ns (fun _ => true) (fun x y => !(!decide (x = y) && (ns.getD y 0).testBit x)) (fun _ _ _ => true) := by
  unfold t3
  refine all_range_congr fun x hx => ?_
  simp only [Bool.true_and]
  rw [Bool.eq_iff_iff, decide_eq_true_eq, andnot_zero, List.all_eq_true]
  constructor
  · intro h y hy
    have hy' := List.mem_range.1 hy
    have e : ((List.range ns.length).all fun z => !(ns.getD x 0).testBit z || true) = true := by simp
    rw [e, Bool.and_true]
    cases hb : (ns.getD x 0).testBit y
    · rfl
    · cases hc : (ns.getD y 0).testBit x
      · simp
      · have := h y (by rw [Nat.testBit_and, hb, inv_bit ns hx y, decide_eq_true hy', hc]; rfl)
        rw [Nat.testBit_two_pow] at this
        have hxy : x = y := by simpa using this
        simp [hxy]
  · intro h i hi
    rw [Nat.testBit_and, Bool.and_eq_true] at hi
    have hil := bit_lt (getD_lt hr.2 x) hi.1
    have h2 := h i (List.mem_range.2 hil)
    have e : ((List.range ns.length).all fun z => !(ns.getD x 0).testBit z || true) = true := by simp
    rw [e, Bool.and_true, hi.1] at h2
    have h3 := hi.2
    rw [inv_bit ns hx i, decide_eq_true hil, Bool.true_and] at h3
    rw [h3] at h2
    rw [Nat.testBit_two_pow]
    simpa using h2
set_option maxRecDepth 100000 in
theorem impl_hasFlag_014 (ns : List Nat) (v : Value) (w : World) (h : Sl cI w v (li ns)) (hr : RelN ns) :
    Calls Tryz.prog 118 #[.agg #[.int .i64 ns.length, v], .int .i64 0] w fun e w' => e = .returned (.bool (t3 ns (fun x => (ns.getD x 0).testBit x) (fun _ _ => true) (fun _ _ _ => true))) ∧ Below w.heap.size w w' := by
  obtain ⟨A, c, rfl⟩ := h.opn
  have h8 := hr.1
  have EL := Lib.hid (li_length ns)
  rw [EL.out] at h ⊢
  have hb0 := below_alloc' w (.cells #[.int .i64 ns.length, .slice A ns.length c] 68)
  have hk0 := Blk.new w 68 #[.int .i64 ns.length, .slice A ns.length c]
  have hkl := hk0.lt
  have HK := Lib.hid hk0
  have HS := Lib.hid (h.below hb0)
  have HB := Lib.hid hb0
  have HN := Lib.hid hr
  have EC : Hid ((li (inv ns)).length = ns.length) := Lib.hid (by rw [li_length, inv_length])
  have ET : Hid (t3 ns (fun x => (ns.getD x 0).testBit x) (fun _ _ => true) (fun _ _ _ => true) = (List.range ns.length).all (fun x => (ns.getD x 0).testBit x)) := Lib.hid (t3_one ns _)
  obtain ⟨RES, hRES⟩ : ∃ R, ((List.range ns.length).all (fun x => (ns.getD x 0).testBit x)) = R := ⟨_, rfl⟩
  rw [ET.out, hRES]
  have HRES := Lib.hid hRES
  clear h hb0 hk0 hr ET hRES
  go_enter Tryz.func118, Tryz.ntmps118
  go_wp2_with fail
  refine (impl_inverse_in _ ns _ HS.out HN.out).mono ?_
  rintro e w1 ⟨u1, rfl, ho, hb⟩
  obtain ⟨A1, c1, rfl⟩ := ho.opn
  rw [EC.out] at ho ⊢
  have HS1 := Lib.hid (HS.out.below hb)
  have HK1 := Lib.hid (HK.out.below hb hkl)
  have HB1 := Lib.hid (HB.out.trans (hb.mono HB.out.size))
  have HO1 := Lib.hid ho.sl
  clear hb ho
  go_upto_region 2 with fail
  have hb2 := below_alloc' w1 (.cells #[.slice A1 ns.length c1] 22)
  have hk2 := HK1.out.below hb2 HK1.out.lt
  have hk3 := Blk.new w1 22 #[.slice A1 ns.length c1]
  have HB2 := Lib.hid (bthen HB1.out hb2)
  have HBx : Hid (Bx (w1.alloc (.cells #[.slice A1 ns.length c1] 22)) w.heap.size w1.heap.size ns A A1 c c1) := Lib.hid ⟨hk2.cell 0, hk2.cell 1, hk2.lt, hk3.cell 0, hk3.lt, HS1.out.below hb2, HO1.out.below hb2⟩
  clear hb2 HS1 HK1 HB1 HO1 hk2 hk3
  generalize w1.alloc (.cells #[.slice A1 ns.length c1] 22) = W at *
  have d0 := HBx.out.f0
  have d1 := HBx.out.f1
  have hlt := HBx.out.fl
  have HW := Lib.hid (impl_everyWorld ns.length (.slice A ns.length c) A ns.length c rfl 148 #[.pointer (some ⟨w.heap.size, 0, none⟩)] (fun x => (ns.getD x 0).testBit x) W h8 en_hasFlag_114 (fun w' hw' i hi => by
    rw [show (#[Value.int .i64 (i : Int)] ++ #[.pointer (some ⟨w.heap.size, 0, none⟩)] : Array Value) = #[.int .i64 i, .pointer (some ⟨w.heap.size, 0, none⟩)] from rfl]
    exact impl_cond_1 i i i w.heap.size w1.heap.size ns A A1 c c1 w' (HBx.out.below hw') HN.out hi hi hi))
  rw [HRES.out] at HW
  go_wp2_with fail
  refine HW.out.mono ?_
  rintro e w4 ⟨rfl, hb⟩
  have HB6 := Lib.hid (bthen HB2.out hb)
  clear hb d0 d1
  go_wp2
  go_ret
  exact ⟨rfl, HB6.out⟩
set_option maxRecDepth 100000 in
theorem impl_hasFlag_814 (ns : List Nat) (v : Value) (w : World) (h : Sl cI w v (li ns)) (hr : RelN ns) :
    Calls Tryz.prog 118 #[.agg #[.int .i64 ns.length, v], .int .i64 8] w fun e w' => e = .returned (.bool (t3 ns (fun _ => true) (fun x y => !(!decide (x = y) && (ns.getD y 0).testBit x)) (fun _ _ _ => true))) ∧ Below w.heap.size w w' := by
  obtain ⟨A, c, rfl⟩ := h.opn
  have h8 := hr.1
  have EL := Lib.hid (li_length ns)
  rw [EL.out] at h ⊢
  have hb0 := below_alloc' w (.cells #[.int .i64 ns.length, .slice A ns.length c] 68)
  have hk0 := Blk.new w 68 #[.int .i64 ns.length, .slice A ns.length c]
  have hkl := hk0.lt
  have HK := Lib.hid hk0
  have HS := Lib.hid (h.below hb0)
  have HB := Lib.hid hb0
  have HN := Lib.hid hr
  have EC : Hid ((li (inv ns)).length = ns.length) := Lib.hid (by rw [li_length, inv_length])
  have ET : Hid (t3 ns (fun _ => true) (fun x y => !(!decide (x = y) && (ns.getD y 0).testBit x)) (fun _ _ _ => true) = (List.range ns.length).all (fun x => decide (andnot (ns.getD x 0 &&& (inv ns).getD x 0) (2 ^ x) = 0))) := Lib.hid ((f8_eq ns hr).symm)
  obtain ⟨RES, hRES⟩ : ∃ R, ((List.range ns.length).all (fun x => decide (andnot (ns.getD x 0 &&& (inv ns).getD x 0) (2 ^ x) = 0))) = R := ⟨_, rfl⟩
  rw [ET.out, hRES]
  have HRES := Lib.hid hRES
  clear h hb0 hk0 hr ET hRES
  go_enter Tryz.func118, Tryz.ntmps118
  go_wp2_with fail
  refine (impl_inverse_in _ ns _ HS.out HN.out).mono ?_
  rintro e w1 ⟨u1, rfl, ho, hb⟩
  obtain ⟨A1, c1, rfl⟩ := ho.opn
  rw [EC.out] at ho ⊢
  have HS1 := Lib.hid (HS.out.below hb)
  have HK1 := Lib.hid (HK.out.below hb hkl)
  have HB1 := Lib.hid (HB.out.trans (hb.mono HB.out.size))
  have HO1 := Lib.hid ho.sl
  clear hb ho
  go_upto_region 2 with fail
  have hb2 := below_alloc' w1 (.cells #[.slice A1 ns.length c1] 22)
  have hk2 := HK1.out.below hb2 HK1.out.lt
  have hk3 := Blk.new w1 22 #[.slice A1 ns.length c1]
  have HB2 := Lib.hid (bthen HB1.out hb2)
  have HBx : Hid (Bx (w1.alloc (.cells #[.slice A1 ns.length c1] 22)) w.heap.size w1.heap.size ns A A1 c c1) := Lib.hid ⟨hk2.cell 0, hk2.cell 1, hk2.lt, hk3.cell 0, hk3.lt, HS1.out.below hb2, HO1.out.below hb2⟩
  clear hb2 HS1 HK1 HB1 HO1 hk2 hk3
  generalize w1.alloc (.cells #[.slice A1 ns.length c1] 22) = W at *
  have d0 := HBx.out.f0
  have d1 := HBx.out.f1
  have hlt := HBx.out.fl
  have HW := Lib.hid (impl_everyWorld ns.length (.slice A ns.length c) A ns.length c rfl 158 #[.pointer (some ⟨w.heap.size, 0, none⟩), .pointer (some ⟨w1.heap.size, 0, none⟩)] (fun x => decide (andnot (ns.getD x 0 &&& (inv ns).getD x 0) (2 ^ x) = 0)) W h8 en_hasFlag_714 (fun w' hw' i hi => by
    rw [show (#[Value.int .i64 (i : Int)] ++ #[.pointer (some ⟨w.heap.size, 0, none⟩), .pointer (some ⟨w1.heap.size, 0, none⟩)] : Array Value) = #[.int .i64 i, .pointer (some ⟨w.heap.size, 0, none⟩), .pointer (some ⟨w1.heap.size, 0, none⟩)] from rfl]
    exact impl_cond_7 i i i w.heap.size w1.heap.size ns A A1 c c1 w' (HBx.out.below hw') HN.out hi hi hi))
  rw [HRES.out] at HW
  go_wp2_with fail
  refine HW.out.mono ?_
  rintro e w4 ⟨rfl, hb⟩
  have HB6 := Lib.hid (bthen HB2.out hb)
  clear hb d0 d1
  go_wp2
  go_ret
  exact ⟨rfl, HB6.out⟩
/-- a flag of a frame: reflexive, transitive, antisymmetric -/
def flp (ns : List Nat) : Nat → Bool
  | 0 => t3 ns (fun x => (ns.getD x 0).testBit x) (fun _ _ => true) (fun _ _ _ => true)
  | 2 => trv ns
  | _ => t3 ns (fun _ => true) (fun x y => !(!decide (x = y) && (ns.getD y 0).testBit x)) (fun _ _ _ => true)
theorem impl_hasFlag_p (ns : List Nat) (k : Nat) (hk : k = 0 ∨ k = 2 ∨ k = 8) (v : Value) (w : World) (h : Sl cI w v (li ns)) (hr : RelN ns) :
    Calls Tryz.prog 118 #[.agg #[.int .i64 ns.length, v], .int .i64 k] w fun e w' => e = .returned (.bool (flp ns k)) ∧ Below w.heap.size w w' := by
  rcases hk with rfl | rfl | rfl
  · exact impl_hasFlag_014 ns v w h hr
  · exact impl_hasFlag_2 ns v w h hr
  · exact impl_hasFlag_814 ns v w h hr
theorem spec_l05Flag_p (ns : List Nat) (k : Nat) (hk : k = 0 ∨ k = 2 ∨ k = 8) (v : Value) (w : World) (h : Sl cI w v (li ns)) (hr : RelN ns) :
    Calls Tryz.prog 69 #[.agg #[.int .i64 ns.length, v], .int .i64 k] w fun e w' => e = .returned (.bool (flp ns k)) ∧ Below w.heap.size w w' := by
  rcases hk with rfl | rfl | rfl
  · exact spec_l05Flag_0 ns v w h hr
  · exact spec_l05Flag_2 ns v w h hr
  · exact spec_l05Flag_8 ns v w h hr
end Go.Proofs.YtkdldfomdbgcaaaGreat

/- Joined of several texts: 14Q, 14Q4, 14Q3, 14Q2. -/
import Derived.Test.YtgdmfihnbbgcoaaGreatDoor14D
import Derived.Test.YtgdmfihnbbgcoaaGreatDoorAF
namespace Go.Proofs.YtgdmfihnbbgcoaaGreatDoor
open Go.RowKit
set_option linter.unusedVariables false
set_option linter.unusedSimpArgs false
/- The flags of a frame, of the reference, at 0, 1, 4, 5, 6, 8, 9 and 10. Written by gen14Q.py. -/
/-- three conditions, of a world, of it and one that it sees, of it and two that it sees -/
def t3 (a : List Nat) (P1 : Nat → Bool) (P2 : Nat → Nat → Bool) (P3 : Nat → Nat → Nat → Bool) : Bool :=
  (List.range a.length).all fun x => P1 x && (List.range a.length).all fun y => !(a.getD x 0).testBit y || (P2 x y && (List.range a.length).all fun z => !(a.getD x 0).testBit z || P3 x y z)
theorem all_no {n i : Nat} {f : Nat → Bool} (hi : i < n) (h : f i = false) : (List.range n).all f = false := by
  rw [← Bool.not_eq_true, List.all_eq_true]
  intro hh
  have := hh i (List.mem_range.2 hi)
  rw [h] at this; cases this
theorem all_yes {n : Nat} {f : Nat → Bool} (h : ∀ i, i < n → f i = true) : (List.range n).all f = true := by
  rw [List.all_eq_true]
  exact fun i hi => h i (List.mem_range.1 hi)
theorem i64_and_nat8 (a b : Nat) (ha : a < 256) (hb : b < 256) : bits .and .i64 (a : Int) (b : Int) = ((a &&& b : Nat) : Int) := i64_and_nat a b (by omega) (by omega)
set_option maxHeartbeats 1000000 in
set_option maxRecDepth 100000 in
theorem spec_l05Flag_0 (ns : List Nat) (v : Value) (w : World) (h : Sl cI w v (li ns)) (hr : RelN ns) :
    Calls Tryz.prog 55 #[.agg #[.int .i64 ns.length, v], .int .i64 0] w fun e w' => e = .returned (.bool (t3 ns (fun x => (ns.getD x 0).testBit x) (fun _ _ => true) (fun _ _ _ => true))) ∧ Below w.heap.size w w' := by
  obtain ⟨A, c, rfl⟩ := h.opn
  have h8 := hr.1
  have EL := Lib.hid (li_length ns)
  rw [EL.out] at h ⊢
  have hb0 := below_alloc' w (.cells #[.int .i64 ns.length, .slice A ns.length c] 31)
  have hk0 := Blk.new w 31 #[.int .i64 ns.length, .slice A ns.length c]
  have hkl := hk0.lt
  have HS := Lib.hid (h.below hb0)
  have HB := Lib.hid hb0
  have HX := Lib.hid (fun i => Nat.lt_of_lt_of_le (getD_lt hr.2 i) (two_pow_256 h8))
  obtain ⟨P1, hP1⟩ : ∃ P : Nat → Bool, P = fun x => (ns.getD x 0).testBit x := ⟨_, rfl⟩
  obtain ⟨P2, hP2⟩ : ∃ P : Nat → Nat → Bool, P = fun _ _ => true := ⟨_, rfl⟩
  obtain ⟨P3, hP3⟩ : ∃ P : Nat → Nat → Nat → Bool, P = fun _ _ _ => true := ⟨_, rfl⟩
  obtain ⟨R3, hR3⟩ : ∃ R : Nat → Nat → Nat → Bool, R = fun x y z => !(ns.getD x 0).testBit z || P3 x y z := ⟨_, rfl⟩
  obtain ⟨R2, hR2⟩ : ∃ R : Nat → Nat → Bool, R = fun x y => !(ns.getD x 0).testBit y || (P2 x y && (List.range ns.length).all (R3 x y)) := ⟨_, rfl⟩
  obtain ⟨R1, hR1⟩ : ∃ R : Nat → Bool, R = fun x => P1 x && (List.range ns.length).all (R2 x) := ⟨_, rfl⟩
  have ET : Hid (t3 ns (fun x => (ns.getD x 0).testBit x) (fun _ _ => true) (fun _ _ _ => true) = (List.range ns.length).all R1) := Lib.hid (by rw [hR1, hR2, hR3, hP1, hP2, hP3]; rfl)
  have E1 : Hid (∀ x, R1 x = (P1 x && (List.range ns.length).all (R2 x))) := Lib.hid fun x => by rw [hR1]
  have E2 : Hid (∀ x y, R2 x y = (!(ns.getD x 0).testBit y || (P2 x y && (List.range ns.length).all (R3 x y)))) := Lib.hid fun x y => by rw [hR2]
  have E3 : Hid (∀ x y z, R3 x y z = (!(ns.getD x 0).testBit z || P3 x y z)) := Lib.hid fun x y z => by rw [hR3]
  have EP1 := Lib.hid (congrFun hP1)
  have EP2 := Lib.hid (fun x y => congrFun (congrFun hP2 x) y)
  have EP3 := Lib.hid (fun x y z => congrFun (congrFun (congrFun hP3 x) y) z)
  rw [ET.out]
  clear h hb0 hr hP1 hP2 hP3 hR1 hR2 hR3 ET
  have HN1 : Hid (∀ x, x < ns.length → R1 x = false → (List.range ns.length).all R1 = false) := Lib.hid fun x hx h => all_no hx h
  have HN2 : Hid (∀ x y, x < ns.length → y < ns.length → R2 x y = false → (List.range ns.length).all R1 = false) := Lib.hid fun x y hx hy h => all_no hx (by rw [E1.out, all_no hy h, Bool.and_false])
  have HN3 : Hid (∀ x y z, x < ns.length → y < ns.length → z < ns.length → (ns.getD x 0).testBit y = true → R3 x y z = false → (List.range ns.length).all R1 = false) := Lib.hid fun x y z hx hy hz hb h => all_no hx (by rw [E1.out, all_no hy (by rw [E2.out, all_no hz h, Bool.and_false, hb]; rfl), Bool.and_false])
  have HY1 : Hid ((∀ x, x < ns.length → R1 x = true) → (List.range ns.length).all R1 = true) := Lib.hid all_yes
  have HY2 : Hid (∀ x, P1 x = true → (∀ y, y < ns.length → R2 x y = true) → R1 x = true) := Lib.hid fun x hp h => by rw [E1.out, hp, all_yes h]; rfl
  have HY3 : Hid (∀ x y, P2 x y = true → (∀ z, z < ns.length → R3 x y z = true) → R2 x y = true) := Lib.hid fun x y hp h => by rw [E2.out, hp, all_yes h]; simp
  have HZ2 : Hid (∀ x y, (ns.getD x 0).testBit y = false → R2 x y = true) := Lib.hid fun x y h => by rw [E2.out, h]; rfl
  have HZ3 : Hid (∀ x y z, (ns.getD x 0).testBit z = false → R3 x y z = true) := Lib.hid fun x y z h => by rw [E3.out, h]; rfl
  have HW1 : Hid (∀ x, P1 x = false → R1 x = false) := Lib.hid fun x h => by rw [E1.out, h]; rfl
  have HW2 : Hid (∀ x y, (ns.getD x 0).testBit y = true → P2 x y = false → R2 x y = false) := Lib.hid fun x y hb h => by rw [E2.out, hb, h]; rfl
  have HW3 : Hid (∀ x y z, (ns.getD x 0).testBit z = true → P3 x y z = false → R3 x y z = false) := Lib.hid fun x y z hb h => by rw [E3.out, hb, h]; rfl
  have HV3 : Hid (∀ x y z, P3 x y z = true → R3 x y z = true) := Lib.hid fun x y z h => by rw [E3.out, h]; simp
  clear E1 E2 E3
  generalize (List.range ns.length).all R1 = RES at *
  go_enter Tryz.func55, Tryz.ntmps55
  go_upto_region 1 with fail
  generalize w.alloc (.cells #[.int .i64 (ns.length : Int), .slice A ns.length c] 31) = W0 at *
  have d0 : W0.cell? ⟨w.heap.size, 0, none⟩ = some (.int .i64 ns.length) := hk0.cell 0
  have d1 : W0.cell? ⟨w.heap.size, 1, none⟩ = some (.slice A ns.length c) := hk0.cell 1
  clear hk0
  go_quiet (fail)
  clear d0 d1
  go_wp2
  go_loopw [7] (fun x wr => ∃ j : Nat, j ≤ ns.length ∧ x = .int .i64 j ∧ (∀ x, x < j → R1 x = true) ∧ Below W0.heap.size W0 wr) (fun x _ => ns.length - (intOf x).toNat)
  case atStart => exact ⟨0, Nat.zero_le _, rfl, fun i hi => by omega, below_drewN (Below.refl _ _) _⟩
  case round =>
    obtain ⟨x, hx, rfl, hh, hb⟩ := hrel
    have HH := Lib.hid hh
    clear hh
    by_cases hxl : x < ns.length
    · have hx' : x < (li ns).length := by rw [EL.out]; exact hxl
      obtain ⟨b, o, rfl, hbl, hc0⟩ := (HS.out.below hb).atI hx'
      rw [li_get] at hc0
      have HA : Hid (∀ W, Below W0.heap.size W0 W → ∀ z, z < ns.length → W.cell? ⟨b, o + z, none⟩ = some (.int .i64 (ns.getD z 0 : Nat))) := Lib.hid (fun W hW z hz => by
        obtain ⟨b', o', hbo, -, hc⟩ := (HS.out.below hW).atI (k := z) (by rw [EL.out]; exact hz)
        injection hbo with hbo
        injection hbo with e1 e2
        subst e1
        subst e2
        rw [li_get] at hc
        exact hc)
      have hm := HX.out x
      have HBx := Lib.hid hb
      obtain ⟨m, hmm⟩ : ∃ m, ns.getD x 0 = m := ⟨_, rfl⟩
      have hp1 := EP1.out x
      rw [hmm] at hc0 hm
      try rw [hmm] at hp1
      have HMM := Lib.hid hmm
      clear hb hmm
      cases ht : m.testBit x
      · have EF : Hid (RES = false) := Lib.hid (HN1.out x hxl (HW1.out x (by rw [hp1, ht])))
        go_wp2_with fail
        refine (spec_l01Bit m x _ (by omega) (by omega)).mono ?_
        rintro e w3 ⟨rfl, rfl⟩
        rw [ht]
        clear ht hc0 hp1
        go_wp2
        go_ret
        exact ⟨by rw [EF.out]; rfl, HB.out.trans ((HBx.out).mono HB.out.size)⟩
      have HP1 : Hid (P1 x = true) := Lib.hid (by rw [hp1, ht])
      go_wp2_with fail
      refine (spec_l01Bit m x _ (by omega) (by omega)).mono ?_
      rintro e w3 ⟨rfl, rfl⟩
      rw [ht]
      clear ht hc0 hp1
      go_wp2
      go_loopw [8] (fun y wq => ∃ j : Nat, j ≤ ns.length ∧ y = .int .i64 j ∧ (∀ y, y < j → R2 x y = true) ∧ Below W0.heap.size W0 wq) (fun y _ => ns.length - (intOf y).toNat)
      case atStart => exact ⟨0, Nat.zero_le _, rfl, fun y hy => by omega, HBx.out⟩
      case round =>
        obtain ⟨y, hy, rfl, hh, hb⟩ := hrel
        have HG := Lib.hid hh
        have HBr := Lib.hid hb
        clear hh
        by_cases hyl : y < ns.length
        · have hcx := HA.out _ hb x hxl
          have hcy := HA.out _ hb y hyl
          rw [HMM.out] at hcx
          have hr2 := HX.out y
          have hp2 := EP2.out x y
          have HZy := Lib.hid (HZ2.out x y)
          have HWy := Lib.hid (HW2.out x y)
          rw [HMM.out] at HZy HWy
          try rw [HMM.out] at hp2
          obtain ⟨r, hrr⟩ : ∃ r, ns.getD y 0 = r := ⟨_, rfl⟩
          rw [hrr] at hcy hr2
          try rw [hrr] at hp2
          have HRR := Lib.hid hrr
          clear hb hrr
          have HGn : Hid (R2 x y = true → ∀ z, z < y + 1 → R2 x z = true) := Lib.hid (fun h z hz => (Nat.lt_or_ge z y).elim (fun h => HG.out z h) (fun h2 => (show z = y by omega) ▸ h))
          have HZn := Lib.hid (fun z (hz : z < ns.length) ht => HN3.out x y z hxl hyl hz (by rw [HMM.out]; exact ht))
          go_wp2_with fail
          refine (spec_l01Bit m y _ (by omega) (by omega)).mono ?_
          rintro e w3 ⟨rfl, rfl⟩
          cases ht : m.testBit y
          · have HG2 := Lib.hid (HGn.out (HZy.out ht))
            clear ht hcx hcy hp2
            go_wp2
            go_roundw
            case rel => exact ⟨y + 1, by omega, by go_num, HG2.out, HBr.out⟩
            case measure => simp [intOf]; omega
          have HZn2 := Lib.hid (fun z hz => HZn.out z hz ht)
          have HP2 : Hid (P2 x y = true) := Lib.hid hp2
          clear ht hcx hcy hp2
          go_wp2
          go_loopw [9] (fun z wq => ∃ j : Nat, j ≤ ns.length ∧ z = .int .i64 j ∧ (∀ z, z < j → R3 x y z = true) ∧ Below W0.heap.size W0 wq) (fun z _ => ns.length - (intOf z).toNat)
          case atStart => exact ⟨0, Nat.zero_le _, rfl, fun z hz => by omega, HBr.out⟩
          case round =>
            obtain ⟨z, hz, rfl, hh, hb⟩ := hrel
            have HF := Lib.hid hh
            have HBz := Lib.hid hb
            clear hh
            by_cases hzl : z < ns.length
            · have hcx := HA.out _ hb x hxl
              have hcy := HA.out _ hb y hyl
              have hcz := HA.out _ hb z hzl
              rw [HMM.out] at hcx
              rw [HRR.out] at hcy
              have hs2 := HX.out z
              have hp3 := EP3.out x y z
              have HZz := Lib.hid (HZ3.out x y z)
              have HWz := Lib.hid (HW3.out x y z)
              have HVz := Lib.hid (HV3.out x y z)
              rw [HMM.out] at HZz HWz
              try rw [HRR.out] at hp3
              obtain ⟨s, hss⟩ : ∃ s, ns.getD z 0 = s := ⟨_, rfl⟩
              rw [hss] at hcz hs2
              try rw [hss] at hp3
              clear hss hb
              have HFn : Hid (R3 x y z = true → ∀ i, i < z + 1 → R3 x y i = true) := Lib.hid (fun h i hi => (Nat.lt_or_ge i z).elim (fun h => HF.out i h) (fun h2 => (show i = z by omega) ▸ h))
              go_wp2_with fail
              refine (spec_l01Bit m z _ (by omega) (by omega)).mono ?_
              rintro e w3 ⟨rfl, rfl⟩
              cases ht : m.testBit z
              · have HF2 := Lib.hid (HFn.out (HZz.out ht))
                clear ht hcx hcy hcz hp3
                go_wp2
                go_roundw
                case rel => exact ⟨z + 1, by omega, by go_num, HF2.out, HBz.out⟩
                case measure => simp [intOf]; omega
              have HF2 := Lib.hid (HFn.out (HVz.out hp3))
              clear ht hcx hcy hcz hp3
              go_wp2
              go_quiet (fail)
              go_wp2
              go_roundw
              case rel => exact ⟨z + 1, by omega, by go_num, HF2.out, below_drewN HBz.out _⟩
              case measure => simp [intOf]; omega
            · obtain rfl : z = ns.length := by omega
              have HG2 := Lib.hid (HGn.out (HY3.out x y HP2.out HF.out))
              clear hb
              go_wp2
              go_roundw
              case rel => exact ⟨y + 1, by omega, by go_num, HG2.out, HBz.out⟩
              case measure => simp [intOf]; omega
        · obtain rfl : y = ns.length := by omega
          have HH2 : Hid (∀ z, z < x + 1 → R1 z = true) := Lib.hid (fun z hz => (Nat.lt_or_ge z x).elim (fun h => HH.out z h) (fun h => (show z = x by omega) ▸ HY2.out x HP1.out HG.out))
          clear hb
          go_wp2
          go_roundw
          case rel => exact ⟨x + 1, by omega, by go_num, HH2.out, HBr.out⟩
          case measure => simp [intOf]; omega
    · obtain rfl : x = ns.length := by omega
      have EF : Hid (RES = true) := Lib.hid (HY1.out HH.out)
      have HBx := Lib.hid hb
      clear hb
      go_wp2
      go_ret
      exact ⟨by rw [EF.out]; rfl, HB.out.trans ((HBx.out).mono HB.out.size)⟩
set_option maxHeartbeats 1000000 in
set_option maxRecDepth 100000 in
theorem spec_l05Flag_1 (ns : List Nat) (v : Value) (w : World) (h : Sl cI w v (li ns)) (hr : RelN ns) :
    Calls Tryz.prog 55 #[.agg #[.int .i64 ns.length, v], .int .i64 1] w fun e w' => e = .returned (.bool (t3 ns (fun x => !decide (ns.getD x 0 = 0)) (fun _ _ => true) (fun _ _ _ => true))) ∧ Below w.heap.size w w' := by
  obtain ⟨A, c, rfl⟩ := h.opn
  have h8 := hr.1
  have EL := Lib.hid (li_length ns)
  rw [EL.out] at h ⊢
  have hb0 := below_alloc' w (.cells #[.int .i64 ns.length, .slice A ns.length c] 31)
  have hk0 := Blk.new w 31 #[.int .i64 ns.length, .slice A ns.length c]
  have hkl := hk0.lt
  have HS := Lib.hid (h.below hb0)
  have HB := Lib.hid hb0
  have HX := Lib.hid (fun i => Nat.lt_of_lt_of_le (getD_lt hr.2 i) (two_pow_256 h8))
  obtain ⟨P1, hP1⟩ : ∃ P : Nat → Bool, P = fun x => !decide (ns.getD x 0 = 0) := ⟨_, rfl⟩
  obtain ⟨P2, hP2⟩ : ∃ P : Nat → Nat → Bool, P = fun _ _ => true := ⟨_, rfl⟩
  obtain ⟨P3, hP3⟩ : ∃ P : Nat → Nat → Nat → Bool, P = fun _ _ _ => true := ⟨_, rfl⟩
  obtain ⟨R3, hR3⟩ : ∃ R : Nat → Nat → Nat → Bool, R = fun x y z => !(ns.getD x 0).testBit z || P3 x y z := ⟨_, rfl⟩
  obtain ⟨R2, hR2⟩ : ∃ R : Nat → Nat → Bool, R = fun x y => !(ns.getD x 0).testBit y || (P2 x y && (List.range ns.length).all (R3 x y)) := ⟨_, rfl⟩
  obtain ⟨R1, hR1⟩ : ∃ R : Nat → Bool, R = fun x => P1 x && (List.range ns.length).all (R2 x) := ⟨_, rfl⟩
  have ET : Hid (t3 ns (fun x => !decide (ns.getD x 0 = 0)) (fun _ _ => true) (fun _ _ _ => true) = (List.range ns.length).all R1) := Lib.hid (by rw [hR1, hR2, hR3, hP1, hP2, hP3]; rfl)
  have E1 : Hid (∀ x, R1 x = (P1 x && (List.range ns.length).all (R2 x))) := Lib.hid fun x => by rw [hR1]
  have E2 : Hid (∀ x y, R2 x y = (!(ns.getD x 0).testBit y || (P2 x y && (List.range ns.length).all (R3 x y)))) := Lib.hid fun x y => by rw [hR2]
  have E3 : Hid (∀ x y z, R3 x y z = (!(ns.getD x 0).testBit z || P3 x y z)) := Lib.hid fun x y z => by rw [hR3]
  have EP1 := Lib.hid (congrFun hP1)
  have EP2 := Lib.hid (fun x y => congrFun (congrFun hP2 x) y)
  have EP3 := Lib.hid (fun x y z => congrFun (congrFun (congrFun hP3 x) y) z)
  rw [ET.out]
  clear h hb0 hr hP1 hP2 hP3 hR1 hR2 hR3 ET
  have HN1 : Hid (∀ x, x < ns.length → R1 x = false → (List.range ns.length).all R1 = false) := Lib.hid fun x hx h => all_no hx h
  have HN2 : Hid (∀ x y, x < ns.length → y < ns.length → R2 x y = false → (List.range ns.length).all R1 = false) := Lib.hid fun x y hx hy h => all_no hx (by rw [E1.out, all_no hy h, Bool.and_false])
  have HN3 : Hid (∀ x y z, x < ns.length → y < ns.length → z < ns.length → (ns.getD x 0).testBit y = true → R3 x y z = false → (List.range ns.length).all R1 = false) := Lib.hid fun x y z hx hy hz hb h => all_no hx (by rw [E1.out, all_no hy (by rw [E2.out, all_no hz h, Bool.and_false, hb]; rfl), Bool.and_false])
  have HY1 : Hid ((∀ x, x < ns.length → R1 x = true) → (List.range ns.length).all R1 = true) := Lib.hid all_yes
  have HY2 : Hid (∀ x, P1 x = true → (∀ y, y < ns.length → R2 x y = true) → R1 x = true) := Lib.hid fun x hp h => by rw [E1.out, hp, all_yes h]; rfl
  have HY3 : Hid (∀ x y, P2 x y = true → (∀ z, z < ns.length → R3 x y z = true) → R2 x y = true) := Lib.hid fun x y hp h => by rw [E2.out, hp, all_yes h]; simp
  have HZ2 : Hid (∀ x y, (ns.getD x 0).testBit y = false → R2 x y = true) := Lib.hid fun x y h => by rw [E2.out, h]; rfl
  have HZ3 : Hid (∀ x y z, (ns.getD x 0).testBit z = false → R3 x y z = true) := Lib.hid fun x y z h => by rw [E3.out, h]; rfl
  have HW1 : Hid (∀ x, P1 x = false → R1 x = false) := Lib.hid fun x h => by rw [E1.out, h]; rfl
  have HW2 : Hid (∀ x y, (ns.getD x 0).testBit y = true → P2 x y = false → R2 x y = false) := Lib.hid fun x y hb h => by rw [E2.out, hb, h]; rfl
  have HW3 : Hid (∀ x y z, (ns.getD x 0).testBit z = true → P3 x y z = false → R3 x y z = false) := Lib.hid fun x y z hb h => by rw [E3.out, hb, h]; rfl
  have HV3 : Hid (∀ x y z, P3 x y z = true → R3 x y z = true) := Lib.hid fun x y z h => by rw [E3.out, h]; simp
  clear E1 E2 E3
  generalize (List.range ns.length).all R1 = RES at *
  go_enter Tryz.func55, Tryz.ntmps55
  go_upto_region 1 with fail
  generalize w.alloc (.cells #[.int .i64 (ns.length : Int), .slice A ns.length c] 31) = W0 at *
  have d0 : W0.cell? ⟨w.heap.size, 0, none⟩ = some (.int .i64 ns.length) := hk0.cell 0
  have d1 : W0.cell? ⟨w.heap.size, 1, none⟩ = some (.slice A ns.length c) := hk0.cell 1
  clear hk0
  go_quiet (fail)
  clear d0 d1
  go_wp2
  go_loopw [7] (fun x wr => ∃ j : Nat, j ≤ ns.length ∧ x = .int .i64 j ∧ (∀ x, x < j → R1 x = true) ∧ Below W0.heap.size W0 wr) (fun x _ => ns.length - (intOf x).toNat)
  case atStart => exact ⟨0, Nat.zero_le _, rfl, fun i hi => by omega, below_drewN (Below.refl _ _) _⟩
  case round =>
    obtain ⟨x, hx, rfl, hh, hb⟩ := hrel
    have HH := Lib.hid hh
    clear hh
    by_cases hxl : x < ns.length
    · have hx' : x < (li ns).length := by rw [EL.out]; exact hxl
      obtain ⟨b, o, rfl, hbl, hc0⟩ := (HS.out.below hb).atI hx'
      rw [li_get] at hc0
      have HA : Hid (∀ W, Below W0.heap.size W0 W → ∀ z, z < ns.length → W.cell? ⟨b, o + z, none⟩ = some (.int .i64 (ns.getD z 0 : Nat))) := Lib.hid (fun W hW z hz => by
        obtain ⟨b', o', hbo, -, hc⟩ := (HS.out.below hW).atI (k := z) (by rw [EL.out]; exact hz)
        injection hbo with hbo
        injection hbo with e1 e2
        subst e1
        subst e2
        rw [li_get] at hc
        exact hc)
      have hm := HX.out x
      have HBx := Lib.hid hb
      obtain ⟨m, hmm⟩ : ∃ m, ns.getD x 0 = m := ⟨_, rfl⟩
      have hp1 := EP1.out x
      rw [hmm] at hc0 hm
      try rw [hmm] at hp1
      have HMM := Lib.hid hmm
      clear hb hmm
      by_cases hz : m = 0
      · have EF : Hid (RES = false) := Lib.hid (HN1.out x hxl (HW1.out x (by rw [hp1, decide_eq_true hz]; rfl)))
        have hd : (((m : Nat) : Int) == 0) = true := by subst hz; rfl
        clear hz hp1
        go_wp2
        go_ret
        exact ⟨by rw [EF.out]; rfl, HB.out.trans ((HBx.out).mono HB.out.size)⟩
      have HP1 : Hid (P1 x = true) := Lib.hid (by rw [hp1, decide_eq_false hz]; rfl)
      have hd : (((m : Nat) : Int) == 0) = false := beq_eq_false_iff_ne.2 (by omega)
      clear hz hp1
      go_wp2
      go_loopw [8] (fun y wq => ∃ j : Nat, j ≤ ns.length ∧ y = .int .i64 j ∧ (∀ y, y < j → R2 x y = true) ∧ Below W0.heap.size W0 wq) (fun y _ => ns.length - (intOf y).toNat)
      case atStart => exact ⟨0, Nat.zero_le _, rfl, fun y hy => by omega, HBx.out⟩
      case round =>
        obtain ⟨y, hy, rfl, hh, hb⟩ := hrel
        have HG := Lib.hid hh
        have HBr := Lib.hid hb
        clear hh
        by_cases hyl : y < ns.length
        · have hcx := HA.out _ hb x hxl
          have hcy := HA.out _ hb y hyl
          rw [HMM.out] at hcx
          have hr2 := HX.out y
          have hp2 := EP2.out x y
          have HZy := Lib.hid (HZ2.out x y)
          have HWy := Lib.hid (HW2.out x y)
          rw [HMM.out] at HZy HWy
          try rw [HMM.out] at hp2
          obtain ⟨r, hrr⟩ : ∃ r, ns.getD y 0 = r := ⟨_, rfl⟩
          rw [hrr] at hcy hr2
          try rw [hrr] at hp2
          have HRR := Lib.hid hrr
          clear hb hrr
          have HGn : Hid (R2 x y = true → ∀ z, z < y + 1 → R2 x z = true) := Lib.hid (fun h z hz => (Nat.lt_or_ge z y).elim (fun h => HG.out z h) (fun h2 => (show z = y by omega) ▸ h))
          have HZn := Lib.hid (fun z (hz : z < ns.length) ht => HN3.out x y z hxl hyl hz (by rw [HMM.out]; exact ht))
          go_wp2_with fail
          refine (spec_l01Bit m y _ (by omega) (by omega)).mono ?_
          rintro e w3 ⟨rfl, rfl⟩
          cases ht : m.testBit y
          · have HG2 := Lib.hid (HGn.out (HZy.out ht))
            clear ht hcx hcy hp2
            go_wp2
            go_roundw
            case rel => exact ⟨y + 1, by omega, by go_num, HG2.out, HBr.out⟩
            case measure => simp [intOf]; omega
          have HZn2 := Lib.hid (fun z hz => HZn.out z hz ht)
          have HP2 : Hid (P2 x y = true) := Lib.hid hp2
          clear ht hcx hcy hp2
          go_wp2
          go_loopw [9] (fun z wq => ∃ j : Nat, j ≤ ns.length ∧ z = .int .i64 j ∧ (∀ z, z < j → R3 x y z = true) ∧ Below W0.heap.size W0 wq) (fun z _ => ns.length - (intOf z).toNat)
          case atStart => exact ⟨0, Nat.zero_le _, rfl, fun z hz => by omega, HBr.out⟩
          case round =>
            obtain ⟨z, hz, rfl, hh, hb⟩ := hrel
            have HF := Lib.hid hh
            have HBz := Lib.hid hb
            clear hh
            by_cases hzl : z < ns.length
            · have hcx := HA.out _ hb x hxl
              have hcy := HA.out _ hb y hyl
              have hcz := HA.out _ hb z hzl
              rw [HMM.out] at hcx
              rw [HRR.out] at hcy
              have hs2 := HX.out z
              have hp3 := EP3.out x y z
              have HZz := Lib.hid (HZ3.out x y z)
              have HWz := Lib.hid (HW3.out x y z)
              have HVz := Lib.hid (HV3.out x y z)
              rw [HMM.out] at HZz HWz
              try rw [HRR.out] at hp3
              obtain ⟨s, hss⟩ : ∃ s, ns.getD z 0 = s := ⟨_, rfl⟩
              rw [hss] at hcz hs2
              try rw [hss] at hp3
              clear hss hb
              have HFn : Hid (R3 x y z = true → ∀ i, i < z + 1 → R3 x y i = true) := Lib.hid (fun h i hi => (Nat.lt_or_ge i z).elim (fun h => HF.out i h) (fun h2 => (show i = z by omega) ▸ h))
              go_wp2_with fail
              refine (spec_l01Bit m z _ (by omega) (by omega)).mono ?_
              rintro e w3 ⟨rfl, rfl⟩
              cases ht : m.testBit z
              · have HF2 := Lib.hid (HFn.out (HZz.out ht))
                clear ht hcx hcy hcz hp3
                go_wp2
                go_roundw
                case rel => exact ⟨z + 1, by omega, by go_num, HF2.out, HBz.out⟩
                case measure => simp [intOf]; omega
              have HF2 := Lib.hid (HFn.out (HVz.out hp3))
              clear ht hcx hcy hcz hp3
              go_wp2
              go_quiet (fail)
              go_wp2
              go_roundw
              case rel => exact ⟨z + 1, by omega, by go_num, HF2.out, below_drewN HBz.out _⟩
              case measure => simp [intOf]; omega
            · obtain rfl : z = ns.length := by omega
              have HG2 := Lib.hid (HGn.out (HY3.out x y HP2.out HF.out))
              clear hb
              go_wp2
              go_roundw
              case rel => exact ⟨y + 1, by omega, by go_num, HG2.out, HBz.out⟩
              case measure => simp [intOf]; omega
        · obtain rfl : y = ns.length := by omega
          have HH2 : Hid (∀ z, z < x + 1 → R1 z = true) := Lib.hid (fun z hz => (Nat.lt_or_ge z x).elim (fun h => HH.out z h) (fun h => (show z = x by omega) ▸ HY2.out x HP1.out HG.out))
          clear hb
          go_wp2
          go_roundw
          case rel => exact ⟨x + 1, by omega, by go_num, HH2.out, HBr.out⟩
          case measure => simp [intOf]; omega
    · obtain rfl : x = ns.length := by omega
      have EF : Hid (RES = true) := Lib.hid (HY1.out HH.out)
      have HBx := Lib.hid hb
      clear hb
      go_wp2
      go_ret
      exact ⟨by rw [EF.out]; rfl, HB.out.trans ((HBx.out).mono HB.out.size)⟩
set_option maxHeartbeats 1000000 in
set_option maxRecDepth 100000 in
theorem spec_l05Flag_4 (ns : List Nat) (v : Value) (w : World) (h : Sl cI w v (li ns)) (hr : RelN ns) :
    Calls Tryz.prog 55 #[.agg #[.int .i64 ns.length, v], .int .i64 4] w fun e w' => e = .returned (.bool (t3 ns (fun _ => true) (fun x y => decide (andnot (ns.getD x 0) (ns.getD y 0) = 0)) (fun _ _ _ => true))) ∧ Below w.heap.size w w' := by
  obtain ⟨A, c, rfl⟩ := h.opn
  have h8 := hr.1
  have EL := Lib.hid (li_length ns)
  rw [EL.out] at h ⊢
  have hb0 := below_alloc' w (.cells #[.int .i64 ns.length, .slice A ns.length c] 31)
  have hk0 := Blk.new w 31 #[.int .i64 ns.length, .slice A ns.length c]
  have hkl := hk0.lt
  have HS := Lib.hid (h.below hb0)
  have HB := Lib.hid hb0
  have HX := Lib.hid (fun i => Nat.lt_of_lt_of_le (getD_lt hr.2 i) (two_pow_256 h8))
  obtain ⟨P1, hP1⟩ : ∃ P : Nat → Bool, P = fun _ => true := ⟨_, rfl⟩
  obtain ⟨P2, hP2⟩ : ∃ P : Nat → Nat → Bool, P = fun x y => decide (andnot (ns.getD x 0) (ns.getD y 0) = 0) := ⟨_, rfl⟩
  obtain ⟨P3, hP3⟩ : ∃ P : Nat → Nat → Nat → Bool, P = fun _ _ _ => true := ⟨_, rfl⟩
  obtain ⟨R3, hR3⟩ : ∃ R : Nat → Nat → Nat → Bool, R = fun x y z => !(ns.getD x 0).testBit z || P3 x y z := ⟨_, rfl⟩
  obtain ⟨R2, hR2⟩ : ∃ R : Nat → Nat → Bool, R = fun x y => !(ns.getD x 0).testBit y || (P2 x y && (List.range ns.length).all (R3 x y)) := ⟨_, rfl⟩
  obtain ⟨R1, hR1⟩ : ∃ R : Nat → Bool, R = fun x => P1 x && (List.range ns.length).all (R2 x) := ⟨_, rfl⟩
  have ET : Hid (t3 ns (fun _ => true) (fun x y => decide (andnot (ns.getD x 0) (ns.getD y 0) = 0)) (fun _ _ _ => true) = (List.range ns.length).all R1) := Lib.hid (by rw [hR1, hR2, hR3, hP1, hP2, hP3]; rfl)
  have E1 : Hid (∀ x, R1 x = (P1 x && (List.range ns.length).all (R2 x))) := Lib.hid fun x => by rw [hR1]
  have E2 : Hid (∀ x y, R2 x y = (!(ns.getD x 0).testBit y || (P2 x y && (List.range ns.length).all (R3 x y)))) := Lib.hid fun x y => by rw [hR2]
  have E3 : Hid (∀ x y z, R3 x y z = (!(ns.getD x 0).testBit z || P3 x y z)) := Lib.hid fun x y z => by rw [hR3]
  have EP1 := Lib.hid (congrFun hP1)
  have EP2 := Lib.hid (fun x y => congrFun (congrFun hP2 x) y)
  have EP3 := Lib.hid (fun x y z => congrFun (congrFun (congrFun hP3 x) y) z)
  rw [ET.out]
  clear h hb0 hr hP1 hP2 hP3 hR1 hR2 hR3 ET
  have HN1 : Hid (∀ x, x < ns.length → R1 x = false → (List.range ns.length).all R1 = false) := Lib.hid fun x hx h => all_no hx h
  have HN2 : Hid (∀ x y, x < ns.length → y < ns.length → R2 x y = false → (List.range ns.length).all R1 = false) := Lib.hid fun x y hx hy h => all_no hx (by rw [E1.out, all_no hy h, Bool.and_false])
  have HN3 : Hid (∀ x y z, x < ns.length → y < ns.length → z < ns.length → (ns.getD x 0).testBit y = true → R3 x y z = false → (List.range ns.length).all R1 = false) := Lib.hid fun x y z hx hy hz hb h => all_no hx (by rw [E1.out, all_no hy (by rw [E2.out, all_no hz h, Bool.and_false, hb]; rfl), Bool.and_false])
  have HY1 : Hid ((∀ x, x < ns.length → R1 x = true) → (List.range ns.length).all R1 = true) := Lib.hid all_yes
  have HY2 : Hid (∀ x, P1 x = true → (∀ y, y < ns.length → R2 x y = true) → R1 x = true) := Lib.hid fun x hp h => by rw [E1.out, hp, all_yes h]; rfl
  have HY3 : Hid (∀ x y, P2 x y = true → (∀ z, z < ns.length → R3 x y z = true) → R2 x y = true) := Lib.hid fun x y hp h => by rw [E2.out, hp, all_yes h]; simp
  have HZ2 : Hid (∀ x y, (ns.getD x 0).testBit y = false → R2 x y = true) := Lib.hid fun x y h => by rw [E2.out, h]; rfl
  have HZ3 : Hid (∀ x y z, (ns.getD x 0).testBit z = false → R3 x y z = true) := Lib.hid fun x y z h => by rw [E3.out, h]; rfl
  have HW1 : Hid (∀ x, P1 x = false → R1 x = false) := Lib.hid fun x h => by rw [E1.out, h]; rfl
  have HW2 : Hid (∀ x y, (ns.getD x 0).testBit y = true → P2 x y = false → R2 x y = false) := Lib.hid fun x y hb h => by rw [E2.out, hb, h]; rfl
  have HW3 : Hid (∀ x y z, (ns.getD x 0).testBit z = true → P3 x y z = false → R3 x y z = false) := Lib.hid fun x y z hb h => by rw [E3.out, hb, h]; rfl
  have HV3 : Hid (∀ x y z, P3 x y z = true → R3 x y z = true) := Lib.hid fun x y z h => by rw [E3.out, h]; simp
  clear E1 E2 E3
  generalize (List.range ns.length).all R1 = RES at *
  go_enter Tryz.func55, Tryz.ntmps55
  go_upto_region 1 with fail
  generalize w.alloc (.cells #[.int .i64 (ns.length : Int), .slice A ns.length c] 31) = W0 at *
  have d0 : W0.cell? ⟨w.heap.size, 0, none⟩ = some (.int .i64 ns.length) := hk0.cell 0
  have d1 : W0.cell? ⟨w.heap.size, 1, none⟩ = some (.slice A ns.length c) := hk0.cell 1
  clear hk0
  go_quiet (fail)
  clear d0 d1
  go_wp2
  go_loopw [7] (fun x wr => ∃ j : Nat, j ≤ ns.length ∧ x = .int .i64 j ∧ (∀ x, x < j → R1 x = true) ∧ Below W0.heap.size W0 wr) (fun x _ => ns.length - (intOf x).toNat)
  case atStart => exact ⟨0, Nat.zero_le _, rfl, fun i hi => by omega, below_drewN (Below.refl _ _) _⟩
  case round =>
    obtain ⟨x, hx, rfl, hh, hb⟩ := hrel
    have HH := Lib.hid hh
    clear hh
    by_cases hxl : x < ns.length
    · have hx' : x < (li ns).length := by rw [EL.out]; exact hxl
      obtain ⟨b, o, rfl, hbl, hc0⟩ := (HS.out.below hb).atI hx'
      rw [li_get] at hc0
      have HA : Hid (∀ W, Below W0.heap.size W0 W → ∀ z, z < ns.length → W.cell? ⟨b, o + z, none⟩ = some (.int .i64 (ns.getD z 0 : Nat))) := Lib.hid (fun W hW z hz => by
        obtain ⟨b', o', hbo, -, hc⟩ := (HS.out.below hW).atI (k := z) (by rw [EL.out]; exact hz)
        injection hbo with hbo
        injection hbo with e1 e2
        subst e1
        subst e2
        rw [li_get] at hc
        exact hc)
      have hm := HX.out x
      have HBx := Lib.hid hb
      obtain ⟨m, hmm⟩ : ∃ m, ns.getD x 0 = m := ⟨_, rfl⟩
      have hp1 := EP1.out x
      rw [hmm] at hc0 hm
      try rw [hmm] at hp1
      have HMM := Lib.hid hmm
      clear hb hmm
      have HP1 : Hid (P1 x = true) := Lib.hid hp1
      clear hp1
      go_wp2
      go_loopw [8] (fun y wq => ∃ j : Nat, j ≤ ns.length ∧ y = .int .i64 j ∧ (∀ y, y < j → R2 x y = true) ∧ Below W0.heap.size W0 wq) (fun y _ => ns.length - (intOf y).toNat)
      case atStart => exact ⟨0, Nat.zero_le _, rfl, fun y hy => by omega, HBx.out⟩
      case round =>
        obtain ⟨y, hy, rfl, hh, hb⟩ := hrel
        have HG := Lib.hid hh
        have HBr := Lib.hid hb
        clear hh
        by_cases hyl : y < ns.length
        · have hcx := HA.out _ hb x hxl
          have hcy := HA.out _ hb y hyl
          rw [HMM.out] at hcx
          have hr2 := HX.out y
          have hp2 := EP2.out x y
          have HZy := Lib.hid (HZ2.out x y)
          have HWy := Lib.hid (HW2.out x y)
          rw [HMM.out] at HZy HWy
          try rw [HMM.out] at hp2
          obtain ⟨r, hrr⟩ : ∃ r, ns.getD y 0 = r := ⟨_, rfl⟩
          rw [hrr] at hcy hr2
          try rw [hrr] at hp2
          have HRR := Lib.hid hrr
          clear hb hrr
          have HGn : Hid (R2 x y = true → ∀ z, z < y + 1 → R2 x z = true) := Lib.hid (fun h z hz => (Nat.lt_or_ge z y).elim (fun h => HG.out z h) (fun h2 => (show z = y by omega) ▸ h))
          have HZn := Lib.hid (fun z (hz : z < ns.length) ht => HN3.out x y z hxl hyl hz (by rw [HMM.out]; exact ht))
          go_wp2_with fail
          refine (spec_l01Bit m y _ (by omega) (by omega)).mono ?_
          rintro e w3 ⟨rfl, rfl⟩
          cases ht : m.testBit y
          · have HG2 := Lib.hid (HGn.out (HZy.out ht))
            clear ht hcx hcy hp2
            go_wp2
            go_roundw
            case rel => exact ⟨y + 1, by omega, by go_num, HG2.out, HBr.out⟩
            case measure => simp [intOf]; omega
          have HZn2 := Lib.hid (fun z hz => HZn.out z hz ht)
          have e1 := i64_andNot_nat m r (by omega) (by omega)
          by_cases hz : andnot m r = 0
          rotate_left
          · have EF : Hid (RES = false) := Lib.hid (HN2.out x y hxl hyl (HWy.out ht (by rw [hp2, decide_eq_false hz])))
            have hd : (((andnot m r : Nat) : Int) != 0) = true := by simp; omega
            generalize andnot m r = q at *
            clear ht hz hp2
            go_wp2
            go_quiet (fail)
            go_wp2
            go_ret
            exact ⟨by rw [EF.out]; rfl, HB.out.trans ((below_drewN HBr.out _).mono HB.out.size)⟩
          have HP2 : Hid (P2 x y = true) := Lib.hid (by rw [hp2, decide_eq_true hz])
          rw [hz] at e1
          clear ht hz hp2
          go_wp2
          go_quiet (fail)
          have HBs := Lib.hid (fun q => below_drewN HBr.out q)
          clear hcx hcy e1
          go_wp2
          go_loopw [9] (fun z wq => ∃ j : Nat, j ≤ ns.length ∧ z = .int .i64 j ∧ (∀ z, z < j → R3 x y z = true) ∧ Below W0.heap.size W0 wq) (fun z _ => ns.length - (intOf z).toNat)
          case atStart => exact ⟨0, Nat.zero_le _, rfl, fun z hz => by omega, HBs.out _⟩
          case round =>
            obtain ⟨z, hz, rfl, hh, hb⟩ := hrel
            have HF := Lib.hid hh
            have HBz := Lib.hid hb
            clear hh
            by_cases hzl : z < ns.length
            · have hcx := HA.out _ hb x hxl
              have hcy := HA.out _ hb y hyl
              have hcz := HA.out _ hb z hzl
              rw [HMM.out] at hcx
              rw [HRR.out] at hcy
              have hs2 := HX.out z
              have hp3 := EP3.out x y z
              have HZz := Lib.hid (HZ3.out x y z)
              have HWz := Lib.hid (HW3.out x y z)
              have HVz := Lib.hid (HV3.out x y z)
              rw [HMM.out] at HZz HWz
              try rw [HRR.out] at hp3
              obtain ⟨s, hss⟩ : ∃ s, ns.getD z 0 = s := ⟨_, rfl⟩
              rw [hss] at hcz hs2
              try rw [hss] at hp3
              clear hss hb
              have HFn : Hid (R3 x y z = true → ∀ i, i < z + 1 → R3 x y i = true) := Lib.hid (fun h i hi => (Nat.lt_or_ge i z).elim (fun h => HF.out i h) (fun h2 => (show i = z by omega) ▸ h))
              go_wp2_with fail
              refine (spec_l01Bit m z _ (by omega) (by omega)).mono ?_
              rintro e w3 ⟨rfl, rfl⟩
              cases ht : m.testBit z
              · have HF2 := Lib.hid (HFn.out (HZz.out ht))
                clear ht hcx hcy hcz hp3
                go_wp2
                go_roundw
                case rel => exact ⟨z + 1, by omega, by go_num, HF2.out, HBz.out⟩
                case measure => simp [intOf]; omega
              have HF2 := Lib.hid (HFn.out (HVz.out hp3))
              clear ht hcx hcy hcz hp3
              go_wp2
              go_quiet (fail)
              go_wp2
              go_roundw
              case rel => exact ⟨z + 1, by omega, by go_num, HF2.out, below_drewN HBz.out _⟩
              case measure => simp [intOf]; omega
            · obtain rfl : z = ns.length := by omega
              have HG2 := Lib.hid (HGn.out (HY3.out x y HP2.out HF.out))
              clear hb
              go_wp2
              go_roundw
              case rel => exact ⟨y + 1, by omega, by go_num, HG2.out, HBz.out⟩
              case measure => simp [intOf]; omega
        · obtain rfl : y = ns.length := by omega
          have HH2 : Hid (∀ z, z < x + 1 → R1 z = true) := Lib.hid (fun z hz => (Nat.lt_or_ge z x).elim (fun h => HH.out z h) (fun h => (show z = x by omega) ▸ HY2.out x HP1.out HG.out))
          clear hb
          go_wp2
          go_roundw
          case rel => exact ⟨x + 1, by omega, by go_num, HH2.out, HBr.out⟩
          case measure => simp [intOf]; omega
    · obtain rfl : x = ns.length := by omega
      have EF : Hid (RES = true) := Lib.hid (HY1.out HH.out)
      have HBx := Lib.hid hb
      clear hb
      go_wp2
      go_ret
      exact ⟨by rw [EF.out]; rfl, HB.out.trans ((HBx.out).mono HB.out.size)⟩
/- The flags of a frame, of the reference, at 0, 1, 4, 5, 6, 8, 9 and 10. Written by gen14Q.py. -/
/-- the masks of those that see a world, half filled: the worlds before x, and of x what comes before y -/
def ivT (ns : List Nat) (x y : Nat) : List Nat := (List.range ns.length).map fun i => if i < x then msk (fun j => (ns.getD j 0).testBit i) ns.length else if i = x then msk (fun j => (ns.getD j 0).testBit x) y else 0
theorem ivT_length (ns : List Nat) (x y : Nat) : (ivT ns x y).length = ns.length := by simp [ivT]
theorem ivT_get (ns : List Nat) (x y : Nat) {i : Nat} (hi : i < ns.length) : (ivT ns x y).getD i 0 = if i < x then msk (fun j => (ns.getD j 0).testBit i) ns.length else if i = x then msk (fun j => (ns.getD j 0).testBit x) y else 0 := by
  unfold ivT
  rw [List.getD_eq_getElem?_getD, List.getElem?_map, List.getElem?_range hi]
  rfl
theorem ivT_zero (ns : List Nat) : List.replicate ns.length 0 = ivT ns 0 0 := by
  apply List.ext_getElem
  · simp [ivT]
  · intro i h1 h2
    rw [List.getElem_replicate]
    simp only [ivT, List.getElem_map, List.getElem_range]
    rw [if_neg (by omega)]
    split <;> rfl
theorem ivT_next (ns : List Nat) (x : Nat) : ivT ns x ns.length = ivT ns (x + 1) 0 := by
  unfold ivT
  refine List.map_congr_left fun i hi => ?_
  rcases Nat.lt_trichotomy i x with h | h | h
  · rw [if_pos h, if_pos (by omega)]
  · subst h; rw [if_neg (by omega), if_pos rfl, if_pos (by omega)]
  · rw [if_neg (by omega), if_neg (by omega), if_neg (by omega)]
    split <;> rfl
theorem ivT_end (ns : List Nat) : ivT ns ns.length 0 = inv ns := by
  unfold ivT inv lnk
  refine List.map_congr_left fun i hi => ?_
  rw [if_pos (List.mem_range.1 hi)]
theorem ivT_no (ns : List Nat) (x y : Nat) (h : (ns.getD y 0).testBit x = false) : ivT ns x (y + 1) = ivT ns x y := by
  unfold ivT
  refine List.map_congr_left fun i hi => ?_
  split
  · rfl
  · split
    · rw [msk, h]; simp
    · rfl
theorem ivT_yes (ns : List Nat) (x y : Nat) (hx : x < ns.length) (h : (ns.getD y 0).testBit x = true) : ivT ns x (y + 1) = (ivT ns x y).set x (msk (fun j => (ns.getD j 0).testBit x) y ||| 2 ^ y) := by
  apply List.ext_getElem
  · simp [ivT]
  · intro i h1 h2
    rw [List.getElem_set]
    simp only [ivT, List.getElem_map, List.getElem_range]
    by_cases e : x = i
    · subst e
      rw [if_pos rfl, if_neg (by omega), if_pos rfl, msk, h]; rfl
    · rw [if_neg e]
      split
      · rfl
      · rw [if_neg (fun h => e h.symm), if_neg (fun h => e h.symm)]
theorem li_set9 (l : List Nat) (i x : Nat) : li (l.set i x) = (li l).set i (x : Int) := by
  unfold li; rw [List.map_set]
set_option maxRecDepth 100000 in
set_option maxHeartbeats 1000000 in
theorem spec_l01Inverse (v : Value) (ns : List Nat) (w : World) (h : Sl cI w v (li ns)) (hr : RelN ns) :
    Calls Tryz.prog 92 #[v] w fun e w' => ∃ u, e = .returned u ∧ Ow cI 2 w.heap.size w' u (li (inv ns)) ∧ Below w.heap.size w w' := by
  obtain ⟨A, c, rfl⟩ := h.opn
  have h8 := hr.1
  have EL := Lib.hid (li_length ns)
  rw [EL.out] at h ⊢
  have H0 := Lib.hid h
  have HX := Lib.hid (fun i => Nat.lt_of_lt_of_le (getD_lt hr.2 i) (two_pow_256 h8))
  have HNo := Lib.hid (fun x y => ivT_no ns x y)
  have HYes := Lib.hid (fun x y => ivT_yes ns x y)
  have HNx := Lib.hid (ivT_next ns)
  have HEn := Lib.hid (ivT_end ns)
  have HLn := Lib.hid (fun x y => ivT_length ns x y)
  have HGt := Lib.hid (fun x y (hx : x < ns.length) => ivT_get ns x y (i := x) hx)
  have HMs : Hid (∀ x y, y ≤ ns.length → msk (fun j => (ns.getD j 0).testBit x) y < 256) := Lib.hid fun x y hy => msk_bound _ (by omega) (by omega)
  have HZ := Lib.hid (ivT_zero ns)
  clear h hr
  go_enter Tryz.func92, Tryz.ntmps92
  go_wp2_with (at_make; refine stopHere ?_)
  refine goHere ?_
  refine mk_full (K := cI) w ty_int64 rfl _ _ rfl w.heap.size ns.length 0 rfl rfl rfl (by omega) (Nat.le_refl _) ?_
  intro w1 ho hg hb hz
  have EZ : List.replicate ns.length (0 : Int) = li (ivT ns 0 0) := by rw [← HZ.out]; unfold li; rw [List.map_replicate]; rfl
  rw [EZ] at ho
  have HO := Lib.hid ho
  have HB := Lib.hid hb
  clear ho hb hg hz EZ
  generalize ivT ns = tb at *
  go_wp2
  go_loopw [4, 5] (fun k _ wr => ∃ x : Nat, x ≤ ns.length ∧ k = .int .i64 x ∧ Ow cI 2 w.heap.size wr (.slice (some ⟨w.heap.size, 0, none⟩) ns.length ns.length) (li (tb x 0)) ∧ Below w.heap.size w wr) (fun k _ _ => ns.length - (intOf k).toNat)
  case atStart => exact ⟨0, Nat.zero_le _, rfl, HO.out, HB.out⟩
  case round =>
    obtain ⟨x, hx, rfl, ho, hb⟩ := hrel
    have HOx := Lib.hid ho
    have HBx := Lib.hid hb
    clear ho hb
    by_cases hxl : x < ns.length
    · generalize wr = wx at *
      go_wp2
      go_loopw [5] (fun k wr => ∃ y : Nat, y ≤ ns.length ∧ k = .int .i64 y ∧ Ow cI 2 w.heap.size wr (.slice (some ⟨w.heap.size, 0, none⟩) ns.length ns.length) (li (tb x y)) ∧ Below w.heap.size w wr) (fun k _ => ns.length - (intOf k).toNat)
      case atStart => exact ⟨0, Nat.zero_le _, rfl, HOx.out, HBx.out⟩
      case round =>
        obtain ⟨y, hy, rfl, ho, hb⟩ := hrel
        have HOy := Lib.hid ho
        have HBy := Lib.hid hb
        by_cases hyl : y < ns.length
        · obtain ⟨b, o, rfl, hbl, hc0⟩ := (H0.out.below hb).atI (k := y) (by rw [EL.out]; exact hyl)
          rw [li_get] at hc0
          have hm := HX.out y
          have hq := HMs.out x y hy
          have HN2 := Lib.hid (HNo.out x y)
          have HY2 := Lib.hid (HYes.out x y hxl)
          have hgx := HGt.out x y hxl
          simp only [Nat.lt_irrefl, if_false, if_true, eq_self] at hgx
          obtain ⟨m, hmm⟩ : ∃ m, ns.getD y 0 = m := ⟨_, rfl⟩
          rw [hmm] at hc0 hm HN2 HY2
          have hxt : x < (li (tb x y)).length := by rw [li_length, HLn.out]; exact hxl
          obtain ⟨hcx, hfx, hBx, hzx⟩ := ho.at1 rfl hxt (u := .int .i64 ((tb x y).getD x 0 : Nat)) (by rw [← li_get _ _ hxt]; rfl)
          rw [hgx] at hcx
          generalize msk (fun j => (ns.getD j 0).testBit x) y = q at *
          clear ho hb hmm hgx
          go_wp2_with fail
          refine (spec_l01Bit m x _ (by omega) (by omega)).mono ?_
          rintro e w3 ⟨rfl, rfl⟩
          cases ht : m.testBit x
          · have HO2 : Hid (Ow cI 2 w.heap.size wr (.slice (some ⟨w.heap.size, 0, none⟩) ns.length ns.length) (li (tb x (y + 1)))) := Lib.hid (by rw [HN2.out ht]; exact HOy.out)
            clear ht hc0 hcx hfx
            go_wp2
            go_roundw
            case rel => exact ⟨y + 1, by omega, by go_num, HO2.out, HBy.out⟩
            case measure => simp [intOf]; omega
          · have or1 := i64_or_nat q (2 ^ y) (by omega) (two_pow_lt (by omega))
            rw [← cast_two_pow] at or1
            have HOne : Hid (∀ W, Calls Tryz.prog 37 #[.int .i64 (y : Int)] W fun e w' => e = .returned (.int .i64 (2 ^ y)) ∧ W = w') := Lib.hid (fun W => by
              have := spec_l01One (y : Int) W (by omega) (by omega)
              rwa [Int.toNat_natCast] at this)
            have HSet : Hid (∀ W, Ow cI 2 w.heap.size W (.slice (some ⟨w.heap.size, 0, none⟩) ns.length ns.length) (li (tb x y)) → Ow cI 2 w.heap.size (W.setCell ⟨w.heap.size, x, none⟩ (.int .i64 ((q ||| 2 ^ y : Nat) : Int))) (.slice (some ⟨w.heap.size, 0, none⟩) ns.length ns.length) (li (tb x (y + 1)))) := Lib.hid fun W hW => by
              rw [HY2.out ht, li_set9]
              exact hW.set1 rfl rfl hxt
            generalize q ||| 2 ^ y = p at *
            have hcxd : wr.drew.cell? ⟨w.heap.size, x, none⟩ = some (.int .i64 (q : Nat)) := hcx
            have hfxd : wr.drew.frozen? ⟨w.heap.size, x, none⟩ = false := hfx
            clear ht hc0
            go_upto_region 12 with fail
            refine wp_region_sched (Below wr.heap.size wr) 10 [0, 1, 2, 3, 4, 5, 6, 8, 9] [0, 1, 2, 3, 4, 5, 6, 7, 8, 9] (by kernel_rfl) (by kernel_rfl) (Below.refl _ _).drew ?_
            repeat
              apply wpSched_q rfl rfl
              case h =>
                intro w' hI K hK
                have hcx' := (hI.cell (p := ⟨w.heap.size, x, none⟩) hzx).trans hcx
                simp only [quietV, stillV]
                go_simp
                exact hK
              go_simp
            refine wpSched_r rfl rfl ?_ (Below.refl _ _).drew
            intro K hK hI
            go_simp
            refine (HOne.out _).mono ?_
            rintro e w4 ⟨rfl, rfl⟩
            refine hK _ _ hI ?_
            clear hK K
            repeat
              apply wpSched_q rfl rfl
              case h =>
                intro w' hI K hK
                simp only [quietV, stillV]
                go_simp
                exact hK
              go_simp
            refine wpSched_nil ?_
            try simp only [List.drop_succ_cons, List.drop_zero, List.drop_nil]
            have HO3 := Lib.hid (HSet.out wr.drew HOy.out)
            have HB3 : Hid (∀ u, Below w.heap.size w (wr.drew.setCell ⟨w.heap.size, x, none⟩ u)) := Lib.hid fun u => HBy.out.drew.setCell (Nat.le_refl _) u
            change wpList _ _ _ _ _ wr.drew
            generalize wr.drew = wd at *
            clear hcx hfx hI
            go_wp2
            go_roundw
            case rel => exact ⟨y + 1, by omega, by go_num, HO3.out, HB3.out _⟩
            case measure => simp [intOf]; omega
        · obtain rfl : y = ns.length := by omega
          have HO2 : Hid (Ow cI 2 w.heap.size wr (.slice (some ⟨w.heap.size, 0, none⟩) ns.length ns.length) (li (tb (x + 1) 0))) := Lib.hid (by rw [← HNx.out]; exact ho)
          clear ho hb
          go_wp2
          go_roundw
          case rel => exact ⟨x + 1, by omega, by go_num, HO2.out, HBy.out⟩
          case measure => simp [intOf]; omega
    · obtain rfl : x = ns.length := by omega
      rw [HEn.out] at HOx
      go_wp2
      go_ret
      exact ⟨_, rfl, HOx.out, HBx.out⟩
set_option maxHeartbeats 1000000 in
set_option maxRecDepth 100000 in
theorem spec_l05Flag_9 (ns : List Nat) (v : Value) (w : World) (h : Sl cI w v (li ns)) (hr : RelN ns) :
    Calls Tryz.prog 55 #[.agg #[.int .i64 ns.length, v], .int .i64 9] w fun e w' => e = .returned (.bool (t3 ns (fun _ => true) (fun x y => !decide (ns.getD x 0 &&& (inv ns).getD y 0 = 0)) (fun _ _ _ => true))) ∧ Below w.heap.size w w' := by
  obtain ⟨A, c, rfl⟩ := h.opn
  have h8 := hr.1
  have EL := Lib.hid (li_length ns)
  rw [EL.out] at h ⊢
  have hb0 := below_alloc' w (.cells #[.int .i64 ns.length, .slice A ns.length c] 31)
  have hk0 := Blk.new w 31 #[.int .i64 ns.length, .slice A ns.length c]
  have hkl := hk0.lt
  have HS := Lib.hid (h.below hb0)
  have HB := Lib.hid hb0
  have HX := Lib.hid (fun i => Nat.lt_of_lt_of_le (getD_lt hr.2 i) (two_pow_256 h8))
  have HI256 : Hid (∀ i, (inv ns).getD i 0 < 256) := Lib.hid (fun i => Nat.lt_of_lt_of_le (getD_lt (lnk_lt _ _ _) i) (two_pow_256 h8))
  have HIn := Lib.hid (fun W (hW : Sl cI W (.slice A ns.length c) (li ns)) => spec_l01Inverse _ ns W hW hr)
  have HIL := Lib.hid (inv_length ns)
  obtain ⟨P1, hP1⟩ : ∃ P : Nat → Bool, P = fun _ => true := ⟨_, rfl⟩
  obtain ⟨P2, hP2⟩ : ∃ P : Nat → Nat → Bool, P = fun x y => !decide (ns.getD x 0 &&& (inv ns).getD y 0 = 0) := ⟨_, rfl⟩
  obtain ⟨P3, hP3⟩ : ∃ P : Nat → Nat → Nat → Bool, P = fun _ _ _ => true := ⟨_, rfl⟩
  obtain ⟨R3, hR3⟩ : ∃ R : Nat → Nat → Nat → Bool, R = fun x y z => !(ns.getD x 0).testBit z || P3 x y z := ⟨_, rfl⟩
  obtain ⟨R2, hR2⟩ : ∃ R : Nat → Nat → Bool, R = fun x y => !(ns.getD x 0).testBit y || (P2 x y && (List.range ns.length).all (R3 x y)) := ⟨_, rfl⟩
  obtain ⟨R1, hR1⟩ : ∃ R : Nat → Bool, R = fun x => P1 x && (List.range ns.length).all (R2 x) := ⟨_, rfl⟩
  have ET : Hid (t3 ns (fun _ => true) (fun x y => !decide (ns.getD x 0 &&& (inv ns).getD y 0 = 0)) (fun _ _ _ => true) = (List.range ns.length).all R1) := Lib.hid (by rw [hR1, hR2, hR3, hP1, hP2, hP3]; rfl)
  have E1 : Hid (∀ x, R1 x = (P1 x && (List.range ns.length).all (R2 x))) := Lib.hid fun x => by rw [hR1]
  have E2 : Hid (∀ x y, R2 x y = (!(ns.getD x 0).testBit y || (P2 x y && (List.range ns.length).all (R3 x y)))) := Lib.hid fun x y => by rw [hR2]
  have E3 : Hid (∀ x y z, R3 x y z = (!(ns.getD x 0).testBit z || P3 x y z)) := Lib.hid fun x y z => by rw [hR3]
  have EP1 := Lib.hid (congrFun hP1)
  have EP2 := Lib.hid (fun x y => congrFun (congrFun hP2 x) y)
  have EP3 := Lib.hid (fun x y z => congrFun (congrFun (congrFun hP3 x) y) z)
  rw [ET.out]
  clear h hb0 hr hP1 hP2 hP3 hR1 hR2 hR3 ET
  have HN1 : Hid (∀ x, x < ns.length → R1 x = false → (List.range ns.length).all R1 = false) := Lib.hid fun x hx h => all_no hx h
  have HN2 : Hid (∀ x y, x < ns.length → y < ns.length → R2 x y = false → (List.range ns.length).all R1 = false) := Lib.hid fun x y hx hy h => all_no hx (by rw [E1.out, all_no hy h, Bool.and_false])
  have HN3 : Hid (∀ x y z, x < ns.length → y < ns.length → z < ns.length → (ns.getD x 0).testBit y = true → R3 x y z = false → (List.range ns.length).all R1 = false) := Lib.hid fun x y z hx hy hz hb h => all_no hx (by rw [E1.out, all_no hy (by rw [E2.out, all_no hz h, Bool.and_false, hb]; rfl), Bool.and_false])
  have HY1 : Hid ((∀ x, x < ns.length → R1 x = true) → (List.range ns.length).all R1 = true) := Lib.hid all_yes
  have HY2 : Hid (∀ x, P1 x = true → (∀ y, y < ns.length → R2 x y = true) → R1 x = true) := Lib.hid fun x hp h => by rw [E1.out, hp, all_yes h]; rfl
  have HY3 : Hid (∀ x y, P2 x y = true → (∀ z, z < ns.length → R3 x y z = true) → R2 x y = true) := Lib.hid fun x y hp h => by rw [E2.out, hp, all_yes h]; simp
  have HZ2 : Hid (∀ x y, (ns.getD x 0).testBit y = false → R2 x y = true) := Lib.hid fun x y h => by rw [E2.out, h]; rfl
  have HZ3 : Hid (∀ x y z, (ns.getD x 0).testBit z = false → R3 x y z = true) := Lib.hid fun x y z h => by rw [E3.out, h]; rfl
  have HW1 : Hid (∀ x, P1 x = false → R1 x = false) := Lib.hid fun x h => by rw [E1.out, h]; rfl
  have HW2 : Hid (∀ x y, (ns.getD x 0).testBit y = true → P2 x y = false → R2 x y = false) := Lib.hid fun x y hb h => by rw [E2.out, hb, h]; rfl
  have HW3 : Hid (∀ x y z, (ns.getD x 0).testBit z = true → P3 x y z = false → R3 x y z = false) := Lib.hid fun x y z hb h => by rw [E3.out, hb, h]; rfl
  have HV3 : Hid (∀ x y z, P3 x y z = true → R3 x y z = true) := Lib.hid fun x y z h => by rw [E3.out, h]; simp
  clear E1 E2 E3
  generalize (List.range ns.length).all R1 = RES at *
  go_enter Tryz.func55, Tryz.ntmps55
  go_upto_region 1 with fail
  generalize w.alloc (.cells #[.int .i64 (ns.length : Int), .slice A ns.length c] 31) = W0 at *
  have d0 : W0.cell? ⟨w.heap.size, 0, none⟩ = some (.int .i64 ns.length) := hk0.cell 0
  have d1 : W0.cell? ⟨w.heap.size, 1, none⟩ = some (.slice A ns.length c) := hk0.cell 1
  clear hk0
  go_quiet (fail)
  clear d0 d1
  go_wp2
  go_loopw [7] (fun x wr => ∃ j : Nat, j ≤ ns.length ∧ x = .int .i64 j ∧ (∀ x, x < j → R1 x = true) ∧ Below W0.heap.size W0 wr) (fun x _ => ns.length - (intOf x).toNat)
  case atStart => exact ⟨0, Nat.zero_le _, rfl, fun i hi => by omega, below_drewN (Below.refl _ _) _⟩
  case round =>
    obtain ⟨x, hx, rfl, hh, hb⟩ := hrel
    have HH := Lib.hid hh
    clear hh
    by_cases hxl : x < ns.length
    · have hx' : x < (li ns).length := by rw [EL.out]; exact hxl
      obtain ⟨b, o, rfl, hbl, hc0⟩ := (HS.out.below hb).atI hx'
      rw [li_get] at hc0
      have HA : Hid (∀ W, Below W0.heap.size W0 W → ∀ z, z < ns.length → W.cell? ⟨b, o + z, none⟩ = some (.int .i64 (ns.getD z 0 : Nat))) := Lib.hid (fun W hW z hz => by
        obtain ⟨b', o', hbo, -, hc⟩ := (HS.out.below hW).atI (k := z) (by rw [EL.out]; exact hz)
        injection hbo with hbo
        injection hbo with e1 e2
        subst e1
        subst e2
        rw [li_get] at hc
        exact hc)
      have hm := HX.out x
      have HBx := Lib.hid hb
      obtain ⟨m, hmm⟩ : ∃ m, ns.getD x 0 = m := ⟨_, rfl⟩
      have hp1 := EP1.out x
      rw [hmm] at hc0 hm
      try rw [hmm] at hp1
      have HMM := Lib.hid hmm
      clear hb hmm
      have HP1 : Hid (P1 x = true) := Lib.hid hp1
      clear hp1
      go_wp2
      go_loopw [8] (fun y wq => ∃ j : Nat, j ≤ ns.length ∧ y = .int .i64 j ∧ (∀ y, y < j → R2 x y = true) ∧ Below W0.heap.size W0 wq) (fun y _ => ns.length - (intOf y).toNat)
      case atStart => exact ⟨0, Nat.zero_le _, rfl, fun y hy => by omega, HBx.out⟩
      case round =>
        obtain ⟨y, hy, rfl, hh, hb⟩ := hrel
        have HG := Lib.hid hh
        have HBr := Lib.hid hb
        clear hh
        by_cases hyl : y < ns.length
        · have hcx := HA.out _ hb x hxl
          have hcy := HA.out _ hb y hyl
          rw [HMM.out] at hcx
          have hr2 := HX.out y
          have hp2 := EP2.out x y
          have HZy := Lib.hid (HZ2.out x y)
          have HWy := Lib.hid (HW2.out x y)
          rw [HMM.out] at HZy HWy
          try rw [HMM.out] at hp2
          obtain ⟨r, hrr⟩ : ∃ r, ns.getD y 0 = r := ⟨_, rfl⟩
          rw [hrr] at hcy hr2
          try rw [hrr] at hp2
          have HRR := Lib.hid hrr
          clear hb hrr
          have HGn : Hid (R2 x y = true → ∀ z, z < y + 1 → R2 x z = true) := Lib.hid (fun h z hz => (Nat.lt_or_ge z y).elim (fun h => HG.out z h) (fun h2 => (show z = y by omega) ▸ h))
          have HZn := Lib.hid (fun z (hz : z < ns.length) ht => HN3.out x y z hxl hyl hz (by rw [HMM.out]; exact ht))
          go_wp2_with fail
          refine (spec_l01Bit m y _ (by omega) (by omega)).mono ?_
          rintro e w3 ⟨rfl, rfl⟩
          cases ht : m.testBit y
          · have HG2 := Lib.hid (HGn.out (HZy.out ht))
            clear ht hcx hcy hp2
            go_wp2
            go_roundw
            case rel => exact ⟨y + 1, by omega, by go_num, HG2.out, HBr.out⟩
            case measure => simp [intOf]; omega
          have HZn2 := Lib.hid (fun z hz => HZn.out z hz ht)
          have hq := HI256.out y
          have hyi : y < (inv ns).length := by rw [HIL.out]; exact hyl
          have hwm : (m &&& (inv ns).getD y 0) < 256 := Nat.lt_of_le_of_lt Nat.and_le_left hm
          have E9 := i64_and_nat8 m ((inv ns).getD y 0) hm hq
          have HIr : Hid (∀ X, Below wr.heap.size wr X → Calls Tryz.prog 92 #[.slice (some ⟨b, o, none⟩) ns.length c] X fun e w' => ∃ u, e = .returned u ∧ Ow cI 2 X.heap.size w' u (li (inv ns)) ∧ Below X.heap.size X w') := Lib.hid fun X hX => HIn.out X (HS.out.below (bthen HBr.out hX))
          obtain ⟨bq, oq, eq, hbq, hcq⟩ := (HS.out.below HBr.out).atI (k := x) (by rw [EL.out]; exact hxl)
          injection eq with eq
          injection eq with eq1 eq2
          subst eq1
          subst eq2
          clear hcq hcy
          generalize hvv : (inv ns).getD y 0 = vy at *
          have HVV := Lib.hid hvv
          clear hvv
          have key : ∀ (z : Bool), decide (m &&& vy = 0) = z → Hid (P2 x y = !z) := fun z hz => Lib.hid (by rw [hp2, hz])
          obtain ⟨zz, hzz⟩ : ∃ z, decide (m &&& vy = 0) = z := ⟨_, rfl⟩
          have HP2z := key zz hzz
          have hd : (((m &&& vy : Nat) : Int) == 0) = zz := by
            rw [← hzz, Bool.eq_iff_iff, beq_iff_eq, decide_eq_true_eq]
            omega
          clear hp2 key hzz
          generalize m &&& vy = mv at *
          go_upto_region 40 with fail
          refine wp_region_sched (Below wr.heap.size wr) 11 [0, 1, 2, 3, 4, 6] [0, 1, 2, 3, 4, 6, 5, 7, 8, 9, 10] (by kernel_rfl) (by kernel_rfl) (Below.refl _ _).drew ?_
          repeat
            apply wpSched_q rfl rfl
            case h =>
              intro w' hI K hK
              have hcx' := (hI.cell (p := ⟨b, o + x, none⟩) hbq).trans hcx
              simp only [quietV, stillV]
              go_simp
              exact hK
            go_simp
          refine wpSched_r rfl rfl ?_ (Below.refl _ _).drew
          intro K hK hI
          go_simp
          refine (HIr.out _ hI).mono ?_
          rintro e w4 ⟨u, rfl, ho4, hb4⟩
          have hI4 := hI.trans (hb4.mono hI.size)
          refine hK _ _ hI4 ?_
          clear hK K
          obtain ⟨A4, c4, rfl⟩ := ho4.opn
          rw [li_length, HIL.out] at ho4 ⊢
          obtain ⟨b4, o4, e4, hb5, hc5⟩ := ho4.sl.atI (k := y) (by rw [li_length]; exact hyi)
          subst e4
          rw [li_get, HVV.out] at hc5
          have HBs := Lib.hid (bthen HBr.out hI4)
          clear ho4 hb4 hI
          refine wpSched_r rfl rfl ?_ hI4
          intro K hK _
          go_simp
          refine hK _ _ hI4 ?_
          clear hK K
          refine wpSched_r rfl rfl ?_ hI4
          intro K hK _
          go_simp
          refine hK _ _ hI4 ?_
          clear hK K
          refine wpSched_r rfl rfl ?_ hI4
          intro K hK _
          go_simp
          refine hK _ _ hI4 ?_
          clear hK K
          refine wpSched_r rfl rfl ?_ hI4
          intro K hK _
          go_simp
          refine hK _ _ hI4 ?_
          clear hK K
          refine wpSched_nil ?_
          try simp only [List.drop_succ_cons, List.drop_zero, List.drop_nil]
          clear hI4 hc5 hcx E9
          cases zz
          rotate_left
          · have EF : Hid (RES = false) := Lib.hid (HN2.out x y hxl hyl (HWy.out ht HP2z.out))
            clear ht hd
            go_wp2
            go_ret
            exact ⟨by rw [EF.out]; rfl, HB.out.trans ((HBs.out).mono HB.out.size)⟩
          have HP2 : Hid (P2 x y = true) := HP2z
          clear ht hd
          go_wp2
          go_loopw [9] (fun z wq => ∃ j : Nat, j ≤ ns.length ∧ z = .int .i64 j ∧ (∀ z, z < j → R3 x y z = true) ∧ Below W0.heap.size W0 wq) (fun z _ => ns.length - (intOf z).toNat)
          case atStart => exact ⟨0, Nat.zero_le _, rfl, fun z hz => by omega, HBs.out⟩
          case round =>
            obtain ⟨z, hz, rfl, hh, hb⟩ := hrel
            have HF := Lib.hid hh
            have HBz := Lib.hid hb
            clear hh
            by_cases hzl : z < ns.length
            · have hcx := HA.out _ hb x hxl
              have hcy := HA.out _ hb y hyl
              have hcz := HA.out _ hb z hzl
              rw [HMM.out] at hcx
              rw [HRR.out] at hcy
              have hs2 := HX.out z
              have hp3 := EP3.out x y z
              have HZz := Lib.hid (HZ3.out x y z)
              have HWz := Lib.hid (HW3.out x y z)
              have HVz := Lib.hid (HV3.out x y z)
              rw [HMM.out] at HZz HWz
              try rw [HRR.out] at hp3
              obtain ⟨s, hss⟩ : ∃ s, ns.getD z 0 = s := ⟨_, rfl⟩
              rw [hss] at hcz hs2
              try rw [hss] at hp3
              clear hss hb
              have HFn : Hid (R3 x y z = true → ∀ i, i < z + 1 → R3 x y i = true) := Lib.hid (fun h i hi => (Nat.lt_or_ge i z).elim (fun h => HF.out i h) (fun h2 => (show i = z by omega) ▸ h))
              go_wp2_with fail
              refine (spec_l01Bit m z _ (by omega) (by omega)).mono ?_
              rintro e w3 ⟨rfl, rfl⟩
              cases ht : m.testBit z
              · have HF2 := Lib.hid (HFn.out (HZz.out ht))
                clear ht hcx hcy hcz hp3
                go_wp2
                go_roundw
                case rel => exact ⟨z + 1, by omega, by go_num, HF2.out, HBz.out⟩
                case measure => simp [intOf]; omega
              have HF2 := Lib.hid (HFn.out (HVz.out hp3))
              clear ht hcx hcy hcz hp3
              go_wp2
              go_quiet (fail)
              go_wp2
              go_roundw
              case rel => exact ⟨z + 1, by omega, by go_num, HF2.out, below_drewN HBz.out _⟩
              case measure => simp [intOf]; omega
            · obtain rfl : z = ns.length := by omega
              have HG2 := Lib.hid (HGn.out (HY3.out x y HP2.out HF.out))
              clear hb
              go_wp2
              go_roundw
              case rel => exact ⟨y + 1, by omega, by go_num, HG2.out, HBz.out⟩
              case measure => simp [intOf]; omega
        · obtain rfl : y = ns.length := by omega
          have HH2 : Hid (∀ z, z < x + 1 → R1 z = true) := Lib.hid (fun z hz => (Nat.lt_or_ge z x).elim (fun h => HH.out z h) (fun h => (show z = x by omega) ▸ HY2.out x HP1.out HG.out))
          clear hb
          go_wp2
          go_roundw
          case rel => exact ⟨x + 1, by omega, by go_num, HH2.out, HBr.out⟩
          case measure => simp [intOf]; omega
    · obtain rfl : x = ns.length := by omega
      have EF : Hid (RES = true) := Lib.hid (HY1.out HH.out)
      have HBx := Lib.hid hb
      clear hb
      go_wp2
      go_ret
      exact ⟨by rw [EF.out]; rfl, HB.out.trans ((HBx.out).mono HB.out.size)⟩
/- The flags of a frame, of the reference, at 0, 1, 4, 5, 6, 8, 9 and 10. Written by gen14Q.py. -/
theorem q_l01Bit14 {m i : Nat} (hm : m < 9223372036854775808) (hi : i ≤ 63) (W : World) (n : Nat) :
    Calls Tryz.prog 36 #[.int .i64 m, .int .i64 i] (W.drewN n) fun e w'' => e = .returned (.bool (m.testBit i)) ∧ ∃ m, w'' = W.drewN m :=
  (spec_l01Bit m i _ hm hi).mono fun e w' hh => ⟨hh.1, n, hh.2.symm⟩
set_option maxHeartbeats 1000000 in
set_option maxRecDepth 100000 in
theorem spec_l05Flag_5 (ns : List Nat) (v : Value) (w : World) (h : Sl cI w v (li ns)) (hr : RelN ns) :
    Calls Tryz.prog 55 #[.agg #[.int .i64 ns.length, v], .int .i64 5] w fun e w' => e = .returned (.bool (t3 ns (fun _ => true) (fun _ _ => true) (fun _ y z => !decide (ns.getD y 0 &&& ns.getD z 0 = 0)))) ∧ Below w.heap.size w w' := by
  obtain ⟨A, c, rfl⟩ := h.opn
  have h8 := hr.1
  have EL := Lib.hid (li_length ns)
  rw [EL.out] at h ⊢
  have hb0 := below_alloc' w (.cells #[.int .i64 ns.length, .slice A ns.length c] 31)
  have hk0 := Blk.new w 31 #[.int .i64 ns.length, .slice A ns.length c]
  have hkl := hk0.lt
  have HS := Lib.hid (h.below hb0)
  have HB := Lib.hid hb0
  have HX := Lib.hid (fun i => Nat.lt_of_lt_of_le (getD_lt hr.2 i) (two_pow_256 h8))
  obtain ⟨P1, hP1⟩ : ∃ P : Nat → Bool, P = fun _ => true := ⟨_, rfl⟩
  obtain ⟨P2, hP2⟩ : ∃ P : Nat → Nat → Bool, P = fun _ _ => true := ⟨_, rfl⟩
  obtain ⟨P3, hP3⟩ : ∃ P : Nat → Nat → Nat → Bool, P = fun _ y z => !decide (ns.getD y 0 &&& ns.getD z 0 = 0) := ⟨_, rfl⟩
  obtain ⟨R3, hR3⟩ : ∃ R : Nat → Nat → Nat → Bool, R = fun x y z => !(ns.getD x 0).testBit z || P3 x y z := ⟨_, rfl⟩
  obtain ⟨R2, hR2⟩ : ∃ R : Nat → Nat → Bool, R = fun x y => !(ns.getD x 0).testBit y || (P2 x y && (List.range ns.length).all (R3 x y)) := ⟨_, rfl⟩
  obtain ⟨R1, hR1⟩ : ∃ R : Nat → Bool, R = fun x => P1 x && (List.range ns.length).all (R2 x) := ⟨_, rfl⟩
  have ET : Hid (t3 ns (fun _ => true) (fun _ _ => true) (fun _ y z => !decide (ns.getD y 0 &&& ns.getD z 0 = 0)) = (List.range ns.length).all R1) := Lib.hid (by rw [hR1, hR2, hR3, hP1, hP2, hP3]; rfl)
  have E1 : Hid (∀ x, R1 x = (P1 x && (List.range ns.length).all (R2 x))) := Lib.hid fun x => by rw [hR1]
  have E2 : Hid (∀ x y, R2 x y = (!(ns.getD x 0).testBit y || (P2 x y && (List.range ns.length).all (R3 x y)))) := Lib.hid fun x y => by rw [hR2]
  have E3 : Hid (∀ x y z, R3 x y z = (!(ns.getD x 0).testBit z || P3 x y z)) := Lib.hid fun x y z => by rw [hR3]
  have EP1 := Lib.hid (congrFun hP1)
  have EP2 := Lib.hid (fun x y => congrFun (congrFun hP2 x) y)
  have EP3 := Lib.hid (fun x y z => congrFun (congrFun (congrFun hP3 x) y) z)
  rw [ET.out]
  clear h hb0 hr hP1 hP2 hP3 hR1 hR2 hR3 ET
  have HN1 : Hid (∀ x, x < ns.length → R1 x = false → (List.range ns.length).all R1 = false) := Lib.hid fun x hx h => all_no hx h
  have HN2 : Hid (∀ x y, x < ns.length → y < ns.length → R2 x y = false → (List.range ns.length).all R1 = false) := Lib.hid fun x y hx hy h => all_no hx (by rw [E1.out, all_no hy h, Bool.and_false])
  have HN3 : Hid (∀ x y z, x < ns.length → y < ns.length → z < ns.length → (ns.getD x 0).testBit y = true → R3 x y z = false → (List.range ns.length).all R1 = false) := Lib.hid fun x y z hx hy hz hb h => all_no hx (by rw [E1.out, all_no hy (by rw [E2.out, all_no hz h, Bool.and_false, hb]; rfl), Bool.and_false])
  have HY1 : Hid ((∀ x, x < ns.length → R1 x = true) → (List.range ns.length).all R1 = true) := Lib.hid all_yes
  have HY2 : Hid (∀ x, P1 x = true → (∀ y, y < ns.length → R2 x y = true) → R1 x = true) := Lib.hid fun x hp h => by rw [E1.out, hp, all_yes h]; rfl
  have HY3 : Hid (∀ x y, P2 x y = true → (∀ z, z < ns.length → R3 x y z = true) → R2 x y = true) := Lib.hid fun x y hp h => by rw [E2.out, hp, all_yes h]; simp
  have HZ2 : Hid (∀ x y, (ns.getD x 0).testBit y = false → R2 x y = true) := Lib.hid fun x y h => by rw [E2.out, h]; rfl
  have HZ3 : Hid (∀ x y z, (ns.getD x 0).testBit z = false → R3 x y z = true) := Lib.hid fun x y z h => by rw [E3.out, h]; rfl
  have HW1 : Hid (∀ x, P1 x = false → R1 x = false) := Lib.hid fun x h => by rw [E1.out, h]; rfl
  have HW2 : Hid (∀ x y, (ns.getD x 0).testBit y = true → P2 x y = false → R2 x y = false) := Lib.hid fun x y hb h => by rw [E2.out, hb, h]; rfl
  have HW3 : Hid (∀ x y z, (ns.getD x 0).testBit z = true → P3 x y z = false → R3 x y z = false) := Lib.hid fun x y z hb h => by rw [E3.out, hb, h]; rfl
  have HV3 : Hid (∀ x y z, P3 x y z = true → R3 x y z = true) := Lib.hid fun x y z h => by rw [E3.out, h]; simp
  clear E1 E2 E3
  generalize (List.range ns.length).all R1 = RES at *
  go_enter Tryz.func55, Tryz.ntmps55
  go_upto_region 1 with fail
  generalize w.alloc (.cells #[.int .i64 (ns.length : Int), .slice A ns.length c] 31) = W0 at *
  have d0 : W0.cell? ⟨w.heap.size, 0, none⟩ = some (.int .i64 ns.length) := hk0.cell 0
  have d1 : W0.cell? ⟨w.heap.size, 1, none⟩ = some (.slice A ns.length c) := hk0.cell 1
  clear hk0
  go_quiet (fail)
  clear d0 d1
  go_wp2
  go_loopw [7] (fun x wr => ∃ j : Nat, j ≤ ns.length ∧ x = .int .i64 j ∧ (∀ x, x < j → R1 x = true) ∧ Below W0.heap.size W0 wr) (fun x _ => ns.length - (intOf x).toNat)
  case atStart => exact ⟨0, Nat.zero_le _, rfl, fun i hi => by omega, below_drewN (Below.refl _ _) _⟩
  case round =>
    obtain ⟨x, hx, rfl, hh, hb⟩ := hrel
    have HH := Lib.hid hh
    clear hh
    by_cases hxl : x < ns.length
    · have hx' : x < (li ns).length := by rw [EL.out]; exact hxl
      obtain ⟨b, o, rfl, hbl, hc0⟩ := (HS.out.below hb).atI hx'
      rw [li_get] at hc0
      have HA : Hid (∀ W, Below W0.heap.size W0 W → ∀ z, z < ns.length → W.cell? ⟨b, o + z, none⟩ = some (.int .i64 (ns.getD z 0 : Nat))) := Lib.hid (fun W hW z hz => by
        obtain ⟨b', o', hbo, -, hc⟩ := (HS.out.below hW).atI (k := z) (by rw [EL.out]; exact hz)
        injection hbo with hbo
        injection hbo with e1 e2
        subst e1
        subst e2
        rw [li_get] at hc
        exact hc)
      have hm := HX.out x
      have HBx := Lib.hid hb
      obtain ⟨m, hmm⟩ : ∃ m, ns.getD x 0 = m := ⟨_, rfl⟩
      have hp1 := EP1.out x
      rw [hmm] at hc0 hm
      try rw [hmm] at hp1
      have HMM := Lib.hid hmm
      clear hb hmm
      have HP1 : Hid (P1 x = true) := Lib.hid hp1
      clear hp1
      go_wp2
      go_loopw [8] (fun y wq => ∃ j : Nat, j ≤ ns.length ∧ y = .int .i64 j ∧ (∀ y, y < j → R2 x y = true) ∧ Below W0.heap.size W0 wq) (fun y _ => ns.length - (intOf y).toNat)
      case atStart => exact ⟨0, Nat.zero_le _, rfl, fun y hy => by omega, HBx.out⟩
      case round =>
        obtain ⟨y, hy, rfl, hh, hb⟩ := hrel
        have HG := Lib.hid hh
        have HBr := Lib.hid hb
        clear hh
        by_cases hyl : y < ns.length
        · have hcx := HA.out _ hb x hxl
          have hcy := HA.out _ hb y hyl
          rw [HMM.out] at hcx
          have hr2 := HX.out y
          have hp2 := EP2.out x y
          have HZy := Lib.hid (HZ2.out x y)
          have HWy := Lib.hid (HW2.out x y)
          rw [HMM.out] at HZy HWy
          try rw [HMM.out] at hp2
          obtain ⟨r, hrr⟩ : ∃ r, ns.getD y 0 = r := ⟨_, rfl⟩
          rw [hrr] at hcy hr2
          try rw [hrr] at hp2
          have HRR := Lib.hid hrr
          clear hb hrr
          have HGn : Hid (R2 x y = true → ∀ z, z < y + 1 → R2 x z = true) := Lib.hid (fun h z hz => (Nat.lt_or_ge z y).elim (fun h => HG.out z h) (fun h2 => (show z = y by omega) ▸ h))
          have HZn := Lib.hid (fun z (hz : z < ns.length) ht => HN3.out x y z hxl hyl hz (by rw [HMM.out]; exact ht))
          go_wp2_with fail
          refine (spec_l01Bit m y _ (by omega) (by omega)).mono ?_
          rintro e w3 ⟨rfl, rfl⟩
          cases ht : m.testBit y
          · have HG2 := Lib.hid (HGn.out (HZy.out ht))
            clear ht hcx hcy hp2
            go_wp2
            go_roundw
            case rel => exact ⟨y + 1, by omega, by go_num, HG2.out, HBr.out⟩
            case measure => simp [intOf]; omega
          have HZn2 := Lib.hid (fun z hz => HZn.out z hz ht)
          have HP2 : Hid (P2 x y = true) := Lib.hid hp2
          clear ht hcx hcy hp2
          go_wp2
          go_loopw [9] (fun z wq => ∃ j : Nat, j ≤ ns.length ∧ z = .int .i64 j ∧ (∀ z, z < j → R3 x y z = true) ∧ Below W0.heap.size W0 wq) (fun z _ => ns.length - (intOf z).toNat)
          case atStart => exact ⟨0, Nat.zero_le _, rfl, fun z hz => by omega, HBr.out⟩
          case round =>
            obtain ⟨z, hz, rfl, hh, hb⟩ := hrel
            have HF := Lib.hid hh
            have HBz := Lib.hid hb
            clear hh
            by_cases hzl : z < ns.length
            · have hcx := HA.out _ hb x hxl
              have hcy := HA.out _ hb y hyl
              have hcz := HA.out _ hb z hzl
              rw [HMM.out] at hcx
              rw [HRR.out] at hcy
              have hs2 := HX.out z
              have hp3 := EP3.out x y z
              have HZz := Lib.hid (HZ3.out x y z)
              have HWz := Lib.hid (HW3.out x y z)
              have HVz := Lib.hid (HV3.out x y z)
              rw [HMM.out] at HZz HWz
              try rw [HRR.out] at hp3
              obtain ⟨s, hss⟩ : ∃ s, ns.getD z 0 = s := ⟨_, rfl⟩
              rw [hss] at hcz hs2
              try rw [hss] at hp3
              clear hss hb
              have HFn : Hid (R3 x y z = true → ∀ i, i < z + 1 → R3 x y i = true) := Lib.hid (fun h i hi => (Nat.lt_or_ge i z).elim (fun h => HF.out i h) (fun h2 => (show i = z by omega) ▸ h))
              go_wp2_with fail
              refine (spec_l01Bit m z _ (by omega) (by omega)).mono ?_
              rintro e w3 ⟨rfl, rfl⟩
              cases ht : m.testBit z
              · have HF2 := Lib.hid (HFn.out (HZz.out ht))
                clear ht hcx hcy hcz hp3
                go_wp2
                go_roundw
                case rel => exact ⟨z + 1, by omega, by go_num, HF2.out, HBz.out⟩
                case measure => simp [intOf]; omega
              have e1 := i64_and_nat8 r s hr2 hs2
              by_cases h0 : r &&& s = 0
              · have EF : Hid (RES = false) := Lib.hid (HZn2.out z hzl (HWz.out ht (by rw [hp3, decide_eq_true h0]; rfl)))
                rw [h0] at e1
                clear ht h0 hp3
                go_wp2
                go_quiet (fail)
                go_wp2
                go_ret
                exact ⟨by rw [EF.out]; rfl, HB.out.trans ((below_drewN HBz.out _).mono HB.out.size)⟩
              have HF2 := Lib.hid (HFn.out (HVz.out (by rw [hp3, decide_eq_false h0]; rfl)))
              have hd : (((r &&& s : Nat) : Int) == 0) = false := beq_eq_false_iff_ne.2 (by omega)
              generalize r &&& s = q at *
              clear ht h0 hp3
              go_wp2
              go_quiet (fail)
              clear hcx hcy hcz e1 hd
              go_wp2
              go_roundw
              case rel => exact ⟨z + 1, by omega, by go_num, HF2.out, below_drewN HBz.out _⟩
              case measure => simp [intOf]; omega
            · obtain rfl : z = ns.length := by omega
              have HG2 := Lib.hid (HGn.out (HY3.out x y HP2.out HF.out))
              clear hb
              go_wp2
              go_roundw
              case rel => exact ⟨y + 1, by omega, by go_num, HG2.out, HBz.out⟩
              case measure => simp [intOf]; omega
        · obtain rfl : y = ns.length := by omega
          have HH2 : Hid (∀ z, z < x + 1 → R1 z = true) := Lib.hid (fun z hz => (Nat.lt_or_ge z x).elim (fun h => HH.out z h) (fun h => (show z = x by omega) ▸ HY2.out x HP1.out HG.out))
          clear hb
          go_wp2
          go_roundw
          case rel => exact ⟨x + 1, by omega, by go_num, HH2.out, HBr.out⟩
          case measure => simp [intOf]; omega
    · obtain rfl : x = ns.length := by omega
      have EF : Hid (RES = true) := Lib.hid (HY1.out HH.out)
      have HBx := Lib.hid hb
      clear hb
      go_wp2
      go_ret
      exact ⟨by rw [EF.out]; rfl, HB.out.trans ((HBx.out).mono HB.out.size)⟩
set_option maxHeartbeats 1000000 in
set_option maxRecDepth 100000 in
theorem spec_l05Flag_6 (ns : List Nat) (v : Value) (w : World) (h : Sl cI w v (li ns)) (hr : RelN ns) :
    Calls Tryz.prog 55 #[.agg #[.int .i64 ns.length, v], .int .i64 6] w fun e w' => e = .returned (.bool (t3 ns (fun _ => true) (fun _ _ => true) (fun _ y z => (ns.getD y 0).testBit z || (ns.getD z 0).testBit y))) ∧ Below w.heap.size w w' := by
  obtain ⟨A, c, rfl⟩ := h.opn
  have h8 := hr.1
  have EL := Lib.hid (li_length ns)
  rw [EL.out] at h ⊢
  have hb0 := below_alloc' w (.cells #[.int .i64 ns.length, .slice A ns.length c] 31)
  have hk0 := Blk.new w 31 #[.int .i64 ns.length, .slice A ns.length c]
  have hkl := hk0.lt
  have HS := Lib.hid (h.below hb0)
  have HB := Lib.hid hb0
  have HX := Lib.hid (fun i => Nat.lt_of_lt_of_le (getD_lt hr.2 i) (two_pow_256 h8))
  obtain ⟨P1, hP1⟩ : ∃ P : Nat → Bool, P = fun _ => true := ⟨_, rfl⟩
  obtain ⟨P2, hP2⟩ : ∃ P : Nat → Nat → Bool, P = fun _ _ => true := ⟨_, rfl⟩
  obtain ⟨P3, hP3⟩ : ∃ P : Nat → Nat → Nat → Bool, P = fun _ y z => (ns.getD y 0).testBit z || (ns.getD z 0).testBit y := ⟨_, rfl⟩
  obtain ⟨R3, hR3⟩ : ∃ R : Nat → Nat → Nat → Bool, R = fun x y z => !(ns.getD x 0).testBit z || P3 x y z := ⟨_, rfl⟩
  obtain ⟨R2, hR2⟩ : ∃ R : Nat → Nat → Bool, R = fun x y => !(ns.getD x 0).testBit y || (P2 x y && (List.range ns.length).all (R3 x y)) := ⟨_, rfl⟩
  obtain ⟨R1, hR1⟩ : ∃ R : Nat → Bool, R = fun x => P1 x && (List.range ns.length).all (R2 x) := ⟨_, rfl⟩
  have ET : Hid (t3 ns (fun _ => true) (fun _ _ => true) (fun _ y z => (ns.getD y 0).testBit z || (ns.getD z 0).testBit y) = (List.range ns.length).all R1) := Lib.hid (by rw [hR1, hR2, hR3, hP1, hP2, hP3]; rfl)
  have E1 : Hid (∀ x, R1 x = (P1 x && (List.range ns.length).all (R2 x))) := Lib.hid fun x => by rw [hR1]
  have E2 : Hid (∀ x y, R2 x y = (!(ns.getD x 0).testBit y || (P2 x y && (List.range ns.length).all (R3 x y)))) := Lib.hid fun x y => by rw [hR2]
  have E3 : Hid (∀ x y z, R3 x y z = (!(ns.getD x 0).testBit z || P3 x y z)) := Lib.hid fun x y z => by rw [hR3]
  have EP1 := Lib.hid (congrFun hP1)
  have EP2 := Lib.hid (fun x y => congrFun (congrFun hP2 x) y)
  have EP3 := Lib.hid (fun x y z => congrFun (congrFun (congrFun hP3 x) y) z)
  rw [ET.out]
  clear h hb0 hr hP1 hP2 hP3 hR1 hR2 hR3 ET
  have HN1 : Hid (∀ x, x < ns.length → R1 x = false → (List.range ns.length).all R1 = false) := Lib.hid fun x hx h => all_no hx h
  have HN2 : Hid (∀ x y, x < ns.length → y < ns.length → R2 x y = false → (List.range ns.length).all R1 = false) := Lib.hid fun x y hx hy h => all_no hx (by rw [E1.out, all_no hy h, Bool.and_false])
  have HN3 : Hid (∀ x y z, x < ns.length → y < ns.length → z < ns.length → (ns.getD x 0).testBit y = true → R3 x y z = false → (List.range ns.length).all R1 = false) := Lib.hid fun x y z hx hy hz hb h => all_no hx (by rw [E1.out, all_no hy (by rw [E2.out, all_no hz h, Bool.and_false, hb]; rfl), Bool.and_false])
  have HY1 : Hid ((∀ x, x < ns.length → R1 x = true) → (List.range ns.length).all R1 = true) := Lib.hid all_yes
  have HY2 : Hid (∀ x, P1 x = true → (∀ y, y < ns.length → R2 x y = true) → R1 x = true) := Lib.hid fun x hp h => by rw [E1.out, hp, all_yes h]; rfl
  have HY3 : Hid (∀ x y, P2 x y = true → (∀ z, z < ns.length → R3 x y z = true) → R2 x y = true) := Lib.hid fun x y hp h => by rw [E2.out, hp, all_yes h]; simp
  have HZ2 : Hid (∀ x y, (ns.getD x 0).testBit y = false → R2 x y = true) := Lib.hid fun x y h => by rw [E2.out, h]; rfl
  have HZ3 : Hid (∀ x y z, (ns.getD x 0).testBit z = false → R3 x y z = true) := Lib.hid fun x y z h => by rw [E3.out, h]; rfl
  have HW1 : Hid (∀ x, P1 x = false → R1 x = false) := Lib.hid fun x h => by rw [E1.out, h]; rfl
  have HW2 : Hid (∀ x y, (ns.getD x 0).testBit y = true → P2 x y = false → R2 x y = false) := Lib.hid fun x y hb h => by rw [E2.out, hb, h]; rfl
  have HW3 : Hid (∀ x y z, (ns.getD x 0).testBit z = true → P3 x y z = false → R3 x y z = false) := Lib.hid fun x y z hb h => by rw [E3.out, hb, h]; rfl
  have HV3 : Hid (∀ x y z, P3 x y z = true → R3 x y z = true) := Lib.hid fun x y z h => by rw [E3.out, h]; simp
  clear E1 E2 E3
  generalize (List.range ns.length).all R1 = RES at *
  go_enter Tryz.func55, Tryz.ntmps55
  go_upto_region 1 with fail
  generalize w.alloc (.cells #[.int .i64 (ns.length : Int), .slice A ns.length c] 31) = W0 at *
  have d0 : W0.cell? ⟨w.heap.size, 0, none⟩ = some (.int .i64 ns.length) := hk0.cell 0
  have d1 : W0.cell? ⟨w.heap.size, 1, none⟩ = some (.slice A ns.length c) := hk0.cell 1
  clear hk0
  go_quiet (fail)
  clear d0 d1
  go_wp2
  go_loopw [7] (fun x wr => ∃ j : Nat, j ≤ ns.length ∧ x = .int .i64 j ∧ (∀ x, x < j → R1 x = true) ∧ Below W0.heap.size W0 wr) (fun x _ => ns.length - (intOf x).toNat)
  case atStart => exact ⟨0, Nat.zero_le _, rfl, fun i hi => by omega, below_drewN (Below.refl _ _) _⟩
  case round =>
    obtain ⟨x, hx, rfl, hh, hb⟩ := hrel
    have HH := Lib.hid hh
    clear hh
    by_cases hxl : x < ns.length
    · have hx' : x < (li ns).length := by rw [EL.out]; exact hxl
      obtain ⟨b, o, rfl, hbl, hc0⟩ := (HS.out.below hb).atI hx'
      rw [li_get] at hc0
      have HA : Hid (∀ W, Below W0.heap.size W0 W → ∀ z, z < ns.length → W.cell? ⟨b, o + z, none⟩ = some (.int .i64 (ns.getD z 0 : Nat))) := Lib.hid (fun W hW z hz => by
        obtain ⟨b', o', hbo, -, hc⟩ := (HS.out.below hW).atI (k := z) (by rw [EL.out]; exact hz)
        injection hbo with hbo
        injection hbo with e1 e2
        subst e1
        subst e2
        rw [li_get] at hc
        exact hc)
      have hm := HX.out x
      have HBx := Lib.hid hb
      obtain ⟨m, hmm⟩ : ∃ m, ns.getD x 0 = m := ⟨_, rfl⟩
      have hp1 := EP1.out x
      rw [hmm] at hc0 hm
      try rw [hmm] at hp1
      have HMM := Lib.hid hmm
      clear hb hmm
      have HP1 : Hid (P1 x = true) := Lib.hid hp1
      clear hp1
      go_wp2
      go_loopw [8] (fun y wq => ∃ j : Nat, j ≤ ns.length ∧ y = .int .i64 j ∧ (∀ y, y < j → R2 x y = true) ∧ Below W0.heap.size W0 wq) (fun y _ => ns.length - (intOf y).toNat)
      case atStart => exact ⟨0, Nat.zero_le _, rfl, fun y hy => by omega, HBx.out⟩
      case round =>
        obtain ⟨y, hy, rfl, hh, hb⟩ := hrel
        have HG := Lib.hid hh
        have HBr := Lib.hid hb
        clear hh
        by_cases hyl : y < ns.length
        · have hcx := HA.out _ hb x hxl
          have hcy := HA.out _ hb y hyl
          rw [HMM.out] at hcx
          have hr2 := HX.out y
          have hp2 := EP2.out x y
          have HZy := Lib.hid (HZ2.out x y)
          have HWy := Lib.hid (HW2.out x y)
          rw [HMM.out] at HZy HWy
          try rw [HMM.out] at hp2
          obtain ⟨r, hrr⟩ : ∃ r, ns.getD y 0 = r := ⟨_, rfl⟩
          rw [hrr] at hcy hr2
          try rw [hrr] at hp2
          have HRR := Lib.hid hrr
          clear hb hrr
          have HGn : Hid (R2 x y = true → ∀ z, z < y + 1 → R2 x z = true) := Lib.hid (fun h z hz => (Nat.lt_or_ge z y).elim (fun h => HG.out z h) (fun h2 => (show z = y by omega) ▸ h))
          have HZn := Lib.hid (fun z (hz : z < ns.length) ht => HN3.out x y z hxl hyl hz (by rw [HMM.out]; exact ht))
          go_wp2_with fail
          refine (spec_l01Bit m y _ (by omega) (by omega)).mono ?_
          rintro e w3 ⟨rfl, rfl⟩
          cases ht : m.testBit y
          · have HG2 := Lib.hid (HGn.out (HZy.out ht))
            clear ht hcx hcy hp2
            go_wp2
            go_roundw
            case rel => exact ⟨y + 1, by omega, by go_num, HG2.out, HBr.out⟩
            case measure => simp [intOf]; omega
          have HZn2 := Lib.hid (fun z hz => HZn.out z hz ht)
          have HP2 : Hid (P2 x y = true) := Lib.hid hp2
          clear ht hcx hcy hp2
          go_wp2
          go_loopw [9] (fun z wq => ∃ j : Nat, j ≤ ns.length ∧ z = .int .i64 j ∧ (∀ z, z < j → R3 x y z = true) ∧ Below W0.heap.size W0 wq) (fun z _ => ns.length - (intOf z).toNat)
          case atStart => exact ⟨0, Nat.zero_le _, rfl, fun z hz => by omega, HBr.out⟩
          case round =>
            obtain ⟨z, hz, rfl, hh, hb⟩ := hrel
            have HF := Lib.hid hh
            have HBz := Lib.hid hb
            clear hh
            by_cases hzl : z < ns.length
            · have hcx := HA.out _ hb x hxl
              have hcy := HA.out _ hb y hyl
              have hcz := HA.out _ hb z hzl
              rw [HMM.out] at hcx
              rw [HRR.out] at hcy
              have hs2 := HX.out z
              have hp3 := EP3.out x y z
              have HZz := Lib.hid (HZ3.out x y z)
              have HWz := Lib.hid (HW3.out x y z)
              have HVz := Lib.hid (HV3.out x y z)
              rw [HMM.out] at HZz HWz
              try rw [HRR.out] at hp3
              obtain ⟨s, hss⟩ : ∃ s, ns.getD z 0 = s := ⟨_, rfl⟩
              rw [hss] at hcz hs2
              try rw [hss] at hp3
              clear hss hb
              have HFn : Hid (R3 x y z = true → ∀ i, i < z + 1 → R3 x y i = true) := Lib.hid (fun h i hi => (Nat.lt_or_ge i z).elim (fun h => HF.out i h) (fun h2 => (show i = z by omega) ▸ h))
              go_wp2_with fail
              refine (spec_l01Bit m z _ (by omega) (by omega)).mono ?_
              rintro e w3 ⟨rfl, rfl⟩
              cases ht : m.testBit z
              · have HF2 := Lib.hid (HFn.out (HZz.out ht))
                clear ht hcx hcy hcz hp3
                go_wp2
                go_roundw
                case rel => exact ⟨z + 1, by omega, by go_num, HF2.out, HBz.out⟩
                case measure => simp [intOf]; omega
              have HQ1 := Lib.hid (fun n => q_l01Bit14 (m := r) (i := z) (by omega) (by omega) wr n)
              have HQ2 := Lib.hid (fun n => q_l01Bit14 (m := s) (i := y) (by omega) (by omega) wr n)
              cases h1 : r.testBit z
              · cases h2 : s.testBit y
                · have EF : Hid (RES = false) := Lib.hid (HZn2.out z hzl (HWz.out ht (by rw [hp3, h1, h2]; rfl)))
                  rw [h1] at HQ1
                  rw [h2] at HQ2
                  clear ht hp3 h1 h2
                  go_wp2
                  go_quiet ((go_at_call 36; first | with_reducible exact HQ1.out _ | with_reducible exact HQ2.out _))
                  go_wp2
                  go_ret
                  exact ⟨by rw [EF.out]; rfl, HB.out.trans ((below_drewN HBz.out _).mono HB.out.size)⟩
                · have HF2 := Lib.hid (HFn.out (HVz.out (by rw [hp3, h1, h2]; rfl)))
                  rw [h1] at HQ1
                  rw [h2] at HQ2
                  clear ht hp3 h1 h2
                  go_wp2
                  go_quiet ((go_at_call 36; first | with_reducible exact HQ1.out _ | with_reducible exact HQ2.out _))
                  clear hcx hcy hcz
                  go_wp2
                  go_roundw
                  case rel => exact ⟨z + 1, by omega, by go_num, HF2.out, below_drewN HBz.out _⟩
                  case measure => simp [intOf]; omega
              · have HF2 := Lib.hid (HFn.out (HVz.out (by rw [hp3, h1]; rfl)))
                rw [h1] at HQ1
                clear ht hp3 h1
                go_wp2
                go_quiet ((go_at_call 36; first | with_reducible exact HQ1.out _ | with_reducible exact HQ2.out _))
                clear hcx hcy hcz
                go_wp2
                go_roundw
                case rel => exact ⟨z + 1, by omega, by go_num, HF2.out, below_drewN HBz.out _⟩
                case measure => simp [intOf]; omega
            · obtain rfl : z = ns.length := by omega
              have HG2 := Lib.hid (HGn.out (HY3.out x y HP2.out HF.out))
              clear hb
              go_wp2
              go_roundw
              case rel => exact ⟨y + 1, by omega, by go_num, HG2.out, HBz.out⟩
              case measure => simp [intOf]; omega
        · obtain rfl : y = ns.length := by omega
          have HH2 : Hid (∀ z, z < x + 1 → R1 z = true) := Lib.hid (fun z hz => (Nat.lt_or_ge z x).elim (fun h => HH.out z h) (fun h => (show z = x by omega) ▸ HY2.out x HP1.out HG.out))
          clear hb
          go_wp2
          go_roundw
          case rel => exact ⟨x + 1, by omega, by go_num, HH2.out, HBr.out⟩
          case measure => simp [intOf]; omega
    · obtain rfl : x = ns.length := by omega
      have EF : Hid (RES = true) := Lib.hid (HY1.out HH.out)
      have HBx := Lib.hid hb
      clear hb
      go_wp2
      go_ret
      exact ⟨by rw [EF.out]; rfl, HB.out.trans ((HBx.out).mono HB.out.size)⟩
/- The flags of a frame, of the reference, at 0, 1, 4, 5, 6, 8, 9 and 10. Written by gen14Q.py. -/
set_option maxHeartbeats 1000000 in
set_option maxRecDepth 100000 in
theorem spec_l05Flag_10 (ns : List Nat) (v : Value) (w : World) (h : Sl cI w v (li ns)) (hr : RelN ns) :
    Calls Tryz.prog 55 #[.agg #[.int .i64 ns.length, v], .int .i64 10] w fun e w' => e = .returned (.bool (t3 ns (fun x => decide (pc (ns.getD x 0) ≤ 1)) (fun _ _ => true) (fun _ _ _ => true))) ∧ Below w.heap.size w w' := by
  obtain ⟨A, c, rfl⟩ := h.opn
  have h8 := hr.1
  have EL := Lib.hid (li_length ns)
  rw [EL.out] at h ⊢
  have hb0 := below_alloc' w (.cells #[.int .i64 ns.length, .slice A ns.length c] 31)
  have hk0 := Blk.new w 31 #[.int .i64 ns.length, .slice A ns.length c]
  have hkl := hk0.lt
  have HS := Lib.hid (h.below hb0)
  have HB := Lib.hid hb0
  have HX := Lib.hid (fun i => Nat.lt_of_lt_of_le (getD_lt hr.2 i) (two_pow_256 h8))
  obtain ⟨P1, hP1⟩ : ∃ P : Nat → Bool, P = fun x => decide (pc (ns.getD x 0) ≤ 1) := ⟨_, rfl⟩
  obtain ⟨P2, hP2⟩ : ∃ P : Nat → Nat → Bool, P = fun _ _ => true := ⟨_, rfl⟩
  obtain ⟨P3, hP3⟩ : ∃ P : Nat → Nat → Nat → Bool, P = fun _ _ _ => true := ⟨_, rfl⟩
  obtain ⟨R3, hR3⟩ : ∃ R : Nat → Nat → Nat → Bool, R = fun x y z => !(ns.getD x 0).testBit z || P3 x y z := ⟨_, rfl⟩
  obtain ⟨R2, hR2⟩ : ∃ R : Nat → Nat → Bool, R = fun x y => !(ns.getD x 0).testBit y || (P2 x y && (List.range ns.length).all (R3 x y)) := ⟨_, rfl⟩
  obtain ⟨R1, hR1⟩ : ∃ R : Nat → Bool, R = fun x => P1 x && (List.range ns.length).all (R2 x) := ⟨_, rfl⟩
  have ET : Hid (t3 ns (fun x => decide (pc (ns.getD x 0) ≤ 1)) (fun _ _ => true) (fun _ _ _ => true) = (List.range ns.length).all R1) := Lib.hid (by rw [hR1, hR2, hR3, hP1, hP2, hP3]; rfl)
  have E1 : Hid (∀ x, R1 x = (P1 x && (List.range ns.length).all (R2 x))) := Lib.hid fun x => by rw [hR1]
  have E2 : Hid (∀ x y, R2 x y = (!(ns.getD x 0).testBit y || (P2 x y && (List.range ns.length).all (R3 x y)))) := Lib.hid fun x y => by rw [hR2]
  have E3 : Hid (∀ x y z, R3 x y z = (!(ns.getD x 0).testBit z || P3 x y z)) := Lib.hid fun x y z => by rw [hR3]
  have EP1 := Lib.hid (congrFun hP1)
  have EP2 := Lib.hid (fun x y => congrFun (congrFun hP2 x) y)
  have EP3 := Lib.hid (fun x y z => congrFun (congrFun (congrFun hP3 x) y) z)
  rw [ET.out]
  clear h hb0 hr hP1 hP2 hP3 hR1 hR2 hR3 ET
  have HN1 : Hid (∀ x, x < ns.length → R1 x = false → (List.range ns.length).all R1 = false) := Lib.hid fun x hx h => all_no hx h
  have HN2 : Hid (∀ x y, x < ns.length → y < ns.length → R2 x y = false → (List.range ns.length).all R1 = false) := Lib.hid fun x y hx hy h => all_no hx (by rw [E1.out, all_no hy h, Bool.and_false])
  have HN3 : Hid (∀ x y z, x < ns.length → y < ns.length → z < ns.length → (ns.getD x 0).testBit y = true → R3 x y z = false → (List.range ns.length).all R1 = false) := Lib.hid fun x y z hx hy hz hb h => all_no hx (by rw [E1.out, all_no hy (by rw [E2.out, all_no hz h, Bool.and_false, hb]; rfl), Bool.and_false])
  have HY1 : Hid ((∀ x, x < ns.length → R1 x = true) → (List.range ns.length).all R1 = true) := Lib.hid all_yes
  have HY2 : Hid (∀ x, P1 x = true → (∀ y, y < ns.length → R2 x y = true) → R1 x = true) := Lib.hid fun x hp h => by rw [E1.out, hp, all_yes h]; rfl
  have HY3 : Hid (∀ x y, P2 x y = true → (∀ z, z < ns.length → R3 x y z = true) → R2 x y = true) := Lib.hid fun x y hp h => by rw [E2.out, hp, all_yes h]; simp
  have HZ2 : Hid (∀ x y, (ns.getD x 0).testBit y = false → R2 x y = true) := Lib.hid fun x y h => by rw [E2.out, h]; rfl
  have HZ3 : Hid (∀ x y z, (ns.getD x 0).testBit z = false → R3 x y z = true) := Lib.hid fun x y z h => by rw [E3.out, h]; rfl
  have HW1 : Hid (∀ x, P1 x = false → R1 x = false) := Lib.hid fun x h => by rw [E1.out, h]; rfl
  have HW2 : Hid (∀ x y, (ns.getD x 0).testBit y = true → P2 x y = false → R2 x y = false) := Lib.hid fun x y hb h => by rw [E2.out, hb, h]; rfl
  have HW3 : Hid (∀ x y z, (ns.getD x 0).testBit z = true → P3 x y z = false → R3 x y z = false) := Lib.hid fun x y z hb h => by rw [E3.out, hb, h]; rfl
  have HV3 : Hid (∀ x y z, P3 x y z = true → R3 x y z = true) := Lib.hid fun x y z h => by rw [E3.out, h]; simp
  clear E1 E2 E3
  generalize (List.range ns.length).all R1 = RES at *
  go_enter Tryz.func55, Tryz.ntmps55
  go_upto_region 1 with fail
  generalize w.alloc (.cells #[.int .i64 (ns.length : Int), .slice A ns.length c] 31) = W0 at *
  have d0 : W0.cell? ⟨w.heap.size, 0, none⟩ = some (.int .i64 ns.length) := hk0.cell 0
  have d1 : W0.cell? ⟨w.heap.size, 1, none⟩ = some (.slice A ns.length c) := hk0.cell 1
  clear hk0
  go_quiet (fail)
  clear d0 d1
  go_wp2
  go_loopw [7] (fun x wr => ∃ j : Nat, j ≤ ns.length ∧ x = .int .i64 j ∧ (∀ x, x < j → R1 x = true) ∧ Below W0.heap.size W0 wr) (fun x _ => ns.length - (intOf x).toNat)
  case atStart => exact ⟨0, Nat.zero_le _, rfl, fun i hi => by omega, below_drewN (Below.refl _ _) _⟩
  case round =>
    obtain ⟨x, hx, rfl, hh, hb⟩ := hrel
    have HH := Lib.hid hh
    clear hh
    by_cases hxl : x < ns.length
    · have hx' : x < (li ns).length := by rw [EL.out]; exact hxl
      obtain ⟨b, o, rfl, hbl, hc0⟩ := (HS.out.below hb).atI hx'
      rw [li_get] at hc0
      have HA : Hid (∀ W, Below W0.heap.size W0 W → ∀ z, z < ns.length → W.cell? ⟨b, o + z, none⟩ = some (.int .i64 (ns.getD z 0 : Nat))) := Lib.hid (fun W hW z hz => by
        obtain ⟨b', o', hbo, -, hc⟩ := (HS.out.below hW).atI (k := z) (by rw [EL.out]; exact hz)
        injection hbo with hbo
        injection hbo with e1 e2
        subst e1
        subst e2
        rw [li_get] at hc
        exact hc)
      have hm := HX.out x
      have HBx := Lib.hid hb
      obtain ⟨m, hmm⟩ : ∃ m, ns.getD x 0 = m := ⟨_, rfl⟩
      have hp1 := EP1.out x
      rw [hmm] at hc0 hm
      try rw [hmm] at hp1
      have HMM := Lib.hid hmm
      clear hb hmm
      have HCM := Lib.hid (fun W => spec_l01Bits m W hm)
      generalize hpc : pc m = p at *
      by_cases hz : p ≤ 1
      rotate_left
      · have EF : Hid (RES = false) := Lib.hid (HN1.out x hxl (HW1.out x (by rw [hp1, decide_eq_false hz])))
        have hd : decide ((1 : Int) < (p : Int)) = true := decide_eq_true (by omega)
        clear hz hp1 hpc
        go_wp2_with fail
        refine (HCM.out _).mono ?_
        rintro e w3 ⟨rfl, rfl⟩
        clear hc0
        go_wp2
        go_ret
        exact ⟨by rw [EF.out]; rfl, HB.out.trans ((HBx.out).mono HB.out.size)⟩
      have HP1 : Hid (P1 x = true) := Lib.hid (by rw [hp1, decide_eq_true hz])
      have hd : decide ((1 : Int) < (p : Int)) = false := decide_eq_false (by omega)
      clear hz hp1 hpc
      go_wp2_with fail
      refine (HCM.out _).mono ?_
      rintro e w3 ⟨rfl, rfl⟩
      clear hc0
      go_wp2
      go_loopw [8] (fun y wq => ∃ j : Nat, j ≤ ns.length ∧ y = .int .i64 j ∧ (∀ y, y < j → R2 x y = true) ∧ Below W0.heap.size W0 wq) (fun y _ => ns.length - (intOf y).toNat)
      case atStart => exact ⟨0, Nat.zero_le _, rfl, fun y hy => by omega, HBx.out⟩
      case round =>
        obtain ⟨y, hy, rfl, hh, hb⟩ := hrel
        have HG := Lib.hid hh
        have HBr := Lib.hid hb
        clear hh
        by_cases hyl : y < ns.length
        · have hcx := HA.out _ hb x hxl
          have hcy := HA.out _ hb y hyl
          rw [HMM.out] at hcx
          have hr2 := HX.out y
          have hp2 := EP2.out x y
          have HZy := Lib.hid (HZ2.out x y)
          have HWy := Lib.hid (HW2.out x y)
          rw [HMM.out] at HZy HWy
          try rw [HMM.out] at hp2
          obtain ⟨r, hrr⟩ : ∃ r, ns.getD y 0 = r := ⟨_, rfl⟩
          rw [hrr] at hcy hr2
          try rw [hrr] at hp2
          have HRR := Lib.hid hrr
          clear hb hrr
          have HGn : Hid (R2 x y = true → ∀ z, z < y + 1 → R2 x z = true) := Lib.hid (fun h z hz => (Nat.lt_or_ge z y).elim (fun h => HG.out z h) (fun h2 => (show z = y by omega) ▸ h))
          have HZn := Lib.hid (fun z (hz : z < ns.length) ht => HN3.out x y z hxl hyl hz (by rw [HMM.out]; exact ht))
          go_wp2_with fail
          refine (spec_l01Bit m y _ (by omega) (by omega)).mono ?_
          rintro e w3 ⟨rfl, rfl⟩
          cases ht : m.testBit y
          · have HG2 := Lib.hid (HGn.out (HZy.out ht))
            clear ht hcx hcy hp2
            go_wp2
            go_roundw
            case rel => exact ⟨y + 1, by omega, by go_num, HG2.out, HBr.out⟩
            case measure => simp [intOf]; omega
          have HZn2 := Lib.hid (fun z hz => HZn.out z hz ht)
          have HP2 : Hid (P2 x y = true) := Lib.hid hp2
          clear ht hcx hcy hp2
          go_wp2
          go_loopw [9] (fun z wq => ∃ j : Nat, j ≤ ns.length ∧ z = .int .i64 j ∧ (∀ z, z < j → R3 x y z = true) ∧ Below W0.heap.size W0 wq) (fun z _ => ns.length - (intOf z).toNat)
          case atStart => exact ⟨0, Nat.zero_le _, rfl, fun z hz => by omega, HBr.out⟩
          case round =>
            obtain ⟨z, hz, rfl, hh, hb⟩ := hrel
            have HF := Lib.hid hh
            have HBz := Lib.hid hb
            clear hh
            by_cases hzl : z < ns.length
            · have hcx := HA.out _ hb x hxl
              have hcy := HA.out _ hb y hyl
              have hcz := HA.out _ hb z hzl
              rw [HMM.out] at hcx
              rw [HRR.out] at hcy
              have hs2 := HX.out z
              have hp3 := EP3.out x y z
              have HZz := Lib.hid (HZ3.out x y z)
              have HWz := Lib.hid (HW3.out x y z)
              have HVz := Lib.hid (HV3.out x y z)
              rw [HMM.out] at HZz HWz
              try rw [HRR.out] at hp3
              obtain ⟨s, hss⟩ : ∃ s, ns.getD z 0 = s := ⟨_, rfl⟩
              rw [hss] at hcz hs2
              try rw [hss] at hp3
              clear hss hb
              have HFn : Hid (R3 x y z = true → ∀ i, i < z + 1 → R3 x y i = true) := Lib.hid (fun h i hi => (Nat.lt_or_ge i z).elim (fun h => HF.out i h) (fun h2 => (show i = z by omega) ▸ h))
              go_wp2_with fail
              refine (spec_l01Bit m z _ (by omega) (by omega)).mono ?_
              rintro e w3 ⟨rfl, rfl⟩
              cases ht : m.testBit z
              · have HF2 := Lib.hid (HFn.out (HZz.out ht))
                clear ht hcx hcy hcz hp3
                go_wp2
                go_roundw
                case rel => exact ⟨z + 1, by omega, by go_num, HF2.out, HBz.out⟩
                case measure => simp [intOf]; omega
              have HF2 := Lib.hid (HFn.out (HVz.out hp3))
              clear ht hcx hcy hcz hp3
              go_wp2
              go_quiet (fail)
              go_wp2
              go_roundw
              case rel => exact ⟨z + 1, by omega, by go_num, HF2.out, below_drewN HBz.out _⟩
              case measure => simp [intOf]; omega
            · obtain rfl : z = ns.length := by omega
              have HG2 := Lib.hid (HGn.out (HY3.out x y HP2.out HF.out))
              clear hb
              go_wp2
              go_roundw
              case rel => exact ⟨y + 1, by omega, by go_num, HG2.out, HBz.out⟩
              case measure => simp [intOf]; omega
        · obtain rfl : y = ns.length := by omega
          have HH2 : Hid (∀ z, z < x + 1 → R1 z = true) := Lib.hid (fun z hz => (Nat.lt_or_ge z x).elim (fun h => HH.out z h) (fun h => (show z = x by omega) ▸ HY2.out x HP1.out HG.out))
          clear hb
          go_wp2
          go_roundw
          case rel => exact ⟨x + 1, by omega, by go_num, HH2.out, HBr.out⟩
          case measure => simp [intOf]; omega
    · obtain rfl : x = ns.length := by omega
      have EF : Hid (RES = true) := Lib.hid (HY1.out HH.out)
      have HBx := Lib.hid hb
      clear hb
      go_wp2
      go_ret
      exact ⟨by rw [EF.out]; rfl, HB.out.trans ((HBx.out).mono HB.out.size)⟩
set_option maxHeartbeats 1000000 in
set_option maxRecDepth 100000 in
theorem spec_l05Flag_8 (ns : List Nat) (v : Value) (w : World) (h : Sl cI w v (li ns)) (hr : RelN ns) :
    Calls Tryz.prog 55 #[.agg #[.int .i64 ns.length, v], .int .i64 8] w fun e w' => e = .returned (.bool (t3 ns (fun _ => true) (fun x y => !(!decide (x = y) && (ns.getD y 0).testBit x)) (fun _ _ _ => true))) ∧ Below w.heap.size w w' := by
  obtain ⟨A, c, rfl⟩ := h.opn
  have h8 := hr.1
  have EL := Lib.hid (li_length ns)
  rw [EL.out] at h ⊢
  have hb0 := below_alloc' w (.cells #[.int .i64 ns.length, .slice A ns.length c] 31)
  have hk0 := Blk.new w 31 #[.int .i64 ns.length, .slice A ns.length c]
  have hkl := hk0.lt
  have HS := Lib.hid (h.below hb0)
  have HB := Lib.hid hb0
  have HX := Lib.hid (fun i => Nat.lt_of_lt_of_le (getD_lt hr.2 i) (two_pow_256 h8))
  obtain ⟨P1, hP1⟩ : ∃ P : Nat → Bool, P = fun _ => true := ⟨_, rfl⟩
  obtain ⟨P2, hP2⟩ : ∃ P : Nat → Nat → Bool, P = fun x y => !(!decide (x = y) && (ns.getD y 0).testBit x) := ⟨_, rfl⟩
  obtain ⟨P3, hP3⟩ : ∃ P : Nat → Nat → Nat → Bool, P = fun _ _ _ => true := ⟨_, rfl⟩
  obtain ⟨R3, hR3⟩ : ∃ R : Nat → Nat → Nat → Bool, R = fun x y z => !(ns.getD x 0).testBit z || P3 x y z := ⟨_, rfl⟩
  obtain ⟨R2, hR2⟩ : ∃ R : Nat → Nat → Bool, R = fun x y => !(ns.getD x 0).testBit y || (P2 x y && (List.range ns.length).all (R3 x y)) := ⟨_, rfl⟩
  obtain ⟨R1, hR1⟩ : ∃ R : Nat → Bool, R = fun x => P1 x && (List.range ns.length).all (R2 x) := ⟨_, rfl⟩
  have ET : Hid (t3 ns (fun _ => true) (fun x y => !(!decide (x = y) && (ns.getD y 0).testBit x)) (fun _ _ _ => true) = (List.range ns.length).all R1) := Lib.hid (by rw [hR1, hR2, hR3, hP1, hP2, hP3]; rfl)
  have E1 : Hid (∀ x, R1 x = (P1 x && (List.range ns.length).all (R2 x))) := Lib.hid fun x => by rw [hR1]
  have E2 : Hid (∀ x y, R2 x y = (!(ns.getD x 0).testBit y || (P2 x y && (List.range ns.length).all (R3 x y)))) := Lib.hid fun x y => by rw [hR2]
  have E3 : Hid (∀ x y z, R3 x y z = (!(ns.getD x 0).testBit z || P3 x y z)) := Lib.hid fun x y z => by rw [hR3]
  have EP1 := Lib.hid (congrFun hP1)
  have EP2 := Lib.hid (fun x y => congrFun (congrFun hP2 x) y)
  have EP3 := Lib.hid (fun x y z => congrFun (congrFun (congrFun hP3 x) y) z)
  rw [ET.out]
  clear h hb0 hr hP1 hP2 hP3 hR1 hR2 hR3 ET
  have HN1 : Hid (∀ x, x < ns.length → R1 x = false → (List.range ns.length).all R1 = false) := Lib.hid fun x hx h => all_no hx h
  have HN2 : Hid (∀ x y, x < ns.length → y < ns.length → R2 x y = false → (List.range ns.length).all R1 = false) := Lib.hid fun x y hx hy h => all_no hx (by rw [E1.out, all_no hy h, Bool.and_false])
  have HN3 : Hid (∀ x y z, x < ns.length → y < ns.length → z < ns.length → (ns.getD x 0).testBit y = true → R3 x y z = false → (List.range ns.length).all R1 = false) := Lib.hid fun x y z hx hy hz hb h => all_no hx (by rw [E1.out, all_no hy (by rw [E2.out, all_no hz h, Bool.and_false, hb]; rfl), Bool.and_false])
  have HY1 : Hid ((∀ x, x < ns.length → R1 x = true) → (List.range ns.length).all R1 = true) := Lib.hid all_yes
  have HY2 : Hid (∀ x, P1 x = true → (∀ y, y < ns.length → R2 x y = true) → R1 x = true) := Lib.hid fun x hp h => by rw [E1.out, hp, all_yes h]; rfl
  have HY3 : Hid (∀ x y, P2 x y = true → (∀ z, z < ns.length → R3 x y z = true) → R2 x y = true) := Lib.hid fun x y hp h => by rw [E2.out, hp, all_yes h]; simp
  have HZ2 : Hid (∀ x y, (ns.getD x 0).testBit y = false → R2 x y = true) := Lib.hid fun x y h => by rw [E2.out, h]; rfl
  have HZ3 : Hid (∀ x y z, (ns.getD x 0).testBit z = false → R3 x y z = true) := Lib.hid fun x y z h => by rw [E3.out, h]; rfl
  have HW1 : Hid (∀ x, P1 x = false → R1 x = false) := Lib.hid fun x h => by rw [E1.out, h]; rfl
  have HW2 : Hid (∀ x y, (ns.getD x 0).testBit y = true → P2 x y = false → R2 x y = false) := Lib.hid fun x y hb h => by rw [E2.out, hb, h]; rfl
  have HW3 : Hid (∀ x y z, (ns.getD x 0).testBit z = true → P3 x y z = false → R3 x y z = false) := Lib.hid fun x y z hb h => by rw [E3.out, hb, h]; rfl
  have HV3 : Hid (∀ x y z, P3 x y z = true → R3 x y z = true) := Lib.hid fun x y z h => by rw [E3.out, h]; simp
  clear E1 E2 E3
  generalize (List.range ns.length).all R1 = RES at *
  go_enter Tryz.func55, Tryz.ntmps55
  go_upto_region 1 with fail
  generalize w.alloc (.cells #[.int .i64 (ns.length : Int), .slice A ns.length c] 31) = W0 at *
  have d0 : W0.cell? ⟨w.heap.size, 0, none⟩ = some (.int .i64 ns.length) := hk0.cell 0
  have d1 : W0.cell? ⟨w.heap.size, 1, none⟩ = some (.slice A ns.length c) := hk0.cell 1
  clear hk0
  go_quiet (fail)
  clear d0 d1
  go_wp2
  go_loopw [7] (fun x wr => ∃ j : Nat, j ≤ ns.length ∧ x = .int .i64 j ∧ (∀ x, x < j → R1 x = true) ∧ Below W0.heap.size W0 wr) (fun x _ => ns.length - (intOf x).toNat)
  case atStart => exact ⟨0, Nat.zero_le _, rfl, fun i hi => by omega, below_drewN (Below.refl _ _) _⟩
  case round =>
    obtain ⟨x, hx, rfl, hh, hb⟩ := hrel
    have HH := Lib.hid hh
    clear hh
    by_cases hxl : x < ns.length
    · have hx' : x < (li ns).length := by rw [EL.out]; exact hxl
      obtain ⟨b, o, rfl, hbl, hc0⟩ := (HS.out.below hb).atI hx'
      rw [li_get] at hc0
      have HA : Hid (∀ W, Below W0.heap.size W0 W → ∀ z, z < ns.length → W.cell? ⟨b, o + z, none⟩ = some (.int .i64 (ns.getD z 0 : Nat))) := Lib.hid (fun W hW z hz => by
        obtain ⟨b', o', hbo, -, hc⟩ := (HS.out.below hW).atI (k := z) (by rw [EL.out]; exact hz)
        injection hbo with hbo
        injection hbo with e1 e2
        subst e1
        subst e2
        rw [li_get] at hc
        exact hc)
      have hm := HX.out x
      have HBx := Lib.hid hb
      obtain ⟨m, hmm⟩ : ∃ m, ns.getD x 0 = m := ⟨_, rfl⟩
      have hp1 := EP1.out x
      rw [hmm] at hc0 hm
      try rw [hmm] at hp1
      have HMM := Lib.hid hmm
      clear hb hmm
      have HP1 : Hid (P1 x = true) := Lib.hid hp1
      clear hp1
      go_wp2
      go_loopw [8] (fun y wq => ∃ j : Nat, j ≤ ns.length ∧ y = .int .i64 j ∧ (∀ y, y < j → R2 x y = true) ∧ Below W0.heap.size W0 wq) (fun y _ => ns.length - (intOf y).toNat)
      case atStart => exact ⟨0, Nat.zero_le _, rfl, fun y hy => by omega, HBx.out⟩
      case round =>
        obtain ⟨y, hy, rfl, hh, hb⟩ := hrel
        have HG := Lib.hid hh
        have HBr := Lib.hid hb
        clear hh
        by_cases hyl : y < ns.length
        · have hcx := HA.out _ hb x hxl
          have hcy := HA.out _ hb y hyl
          rw [HMM.out] at hcx
          have hr2 := HX.out y
          have hp2 := EP2.out x y
          have HZy := Lib.hid (HZ2.out x y)
          have HWy := Lib.hid (HW2.out x y)
          rw [HMM.out] at HZy HWy
          try rw [HMM.out] at hp2
          obtain ⟨r, hrr⟩ : ∃ r, ns.getD y 0 = r := ⟨_, rfl⟩
          rw [hrr] at hcy hr2
          try rw [hrr] at hp2
          have HRR := Lib.hid hrr
          clear hb hrr
          have HGn : Hid (R2 x y = true → ∀ z, z < y + 1 → R2 x z = true) := Lib.hid (fun h z hz => (Nat.lt_or_ge z y).elim (fun h => HG.out z h) (fun h2 => (show z = y by omega) ▸ h))
          have HZn := Lib.hid (fun z (hz : z < ns.length) ht => HN3.out x y z hxl hyl hz (by rw [HMM.out]; exact ht))
          go_wp2_with fail
          refine (spec_l01Bit m y _ (by omega) (by omega)).mono ?_
          rintro e w3 ⟨rfl, rfl⟩
          cases ht : m.testBit y
          · have HG2 := Lib.hid (HGn.out (HZy.out ht))
            clear ht hcx hcy hp2
            go_wp2
            go_roundw
            case rel => exact ⟨y + 1, by omega, by go_num, HG2.out, HBr.out⟩
            case measure => simp [intOf]; omega
          have HZn2 := Lib.hid (fun z hz => HZn.out z hz ht)
          by_cases hxy : x = y
          · have HP2 : Hid (P2 x y = true) := Lib.hid (by rw [hp2, decide_eq_true hxy]; rfl)
            have hd : (((x : Nat) : Int) != ((y : Nat) : Int)) = false := by subst hxy; simp
            clear ht hp2 hxy
            go_wp2
            go_loopw [9] (fun z wq => ∃ j : Nat, j ≤ ns.length ∧ z = .int .i64 j ∧ (∀ z, z < j → R3 x y z = true) ∧ Below W0.heap.size W0 wq) (fun z _ => ns.length - (intOf z).toNat)
            case atStart => exact ⟨0, Nat.zero_le _, rfl, fun z hz => by omega, HBr.out⟩
            case round =>
              obtain ⟨z, hz, rfl, hh, hb⟩ := hrel
              have HF := Lib.hid hh
              have HBz := Lib.hid hb
              clear hh
              by_cases hzl : z < ns.length
              · have hcx := HA.out _ hb x hxl
                have hcy := HA.out _ hb y hyl
                have hcz := HA.out _ hb z hzl
                rw [HMM.out] at hcx
                rw [HRR.out] at hcy
                have hs2 := HX.out z
                have hp3 := EP3.out x y z
                have HZz := Lib.hid (HZ3.out x y z)
                have HWz := Lib.hid (HW3.out x y z)
                have HVz := Lib.hid (HV3.out x y z)
                rw [HMM.out] at HZz HWz
                try rw [HRR.out] at hp3
                obtain ⟨s, hss⟩ : ∃ s, ns.getD z 0 = s := ⟨_, rfl⟩
                rw [hss] at hcz hs2
                try rw [hss] at hp3
                clear hss hb
                have HFn : Hid (R3 x y z = true → ∀ i, i < z + 1 → R3 x y i = true) := Lib.hid (fun h i hi => (Nat.lt_or_ge i z).elim (fun h => HF.out i h) (fun h2 => (show i = z by omega) ▸ h))
                go_wp2_with fail
                refine (spec_l01Bit m z _ (by omega) (by omega)).mono ?_
                rintro e w3 ⟨rfl, rfl⟩
                cases ht : m.testBit z
                · have HF2 := Lib.hid (HFn.out (HZz.out ht))
                  clear ht hcx hcy hcz hp3
                  go_wp2
                  go_roundw
                  case rel => exact ⟨z + 1, by omega, by go_num, HF2.out, HBz.out⟩
                  case measure => simp [intOf]; omega
                have HF2 := Lib.hid (HFn.out (HVz.out hp3))
                clear ht hcx hcy hcz hp3
                go_wp2
                go_quiet (fail)
                go_wp2
                go_roundw
                case rel => exact ⟨z + 1, by omega, by go_num, HF2.out, below_drewN HBz.out _⟩
                case measure => simp [intOf]; omega
              · obtain rfl : z = ns.length := by omega
                have HG2 := Lib.hid (HGn.out (HY3.out x y HP2.out HF.out))
                clear hb
                go_wp2
                go_roundw
                case rel => exact ⟨y + 1, by omega, by go_num, HG2.out, HBz.out⟩
                case measure => simp [intOf]; omega
          have hd : (((x : Nat) : Int) != ((y : Nat) : Int)) = true := by simp; omega
          cases hu : r.testBit x
          rotate_left
          · have EF : Hid (RES = false) := Lib.hid (HN2.out x y hxl hyl (HWy.out ht (by rw [hp2, decide_eq_false hxy, hu]; rfl)))
            clear ht hxy hp2
            go_wp2_with fail
            refine (spec_l01Bit r x _ (by omega) (by omega)).mono ?_
            rintro e w4 ⟨rfl, rfl⟩
            rw [hu]
            clear hu hcx hcy
            go_wp2
            go_ret
            exact ⟨by rw [EF.out]; rfl, HB.out.trans ((HBr.out).mono HB.out.size)⟩
          have HP2 : Hid (P2 x y = true) := Lib.hid (by rw [hp2, decide_eq_false hxy, hu]; rfl)
          clear ht hxy hp2
          go_wp2_with fail
          refine (spec_l01Bit r x _ (by omega) (by omega)).mono ?_
          rintro e w4 ⟨rfl, rfl⟩
          rw [hu]
          clear hu hcx hcy
          go_wp2
          go_loopw [9] (fun z wq => ∃ j : Nat, j ≤ ns.length ∧ z = .int .i64 j ∧ (∀ z, z < j → R3 x y z = true) ∧ Below W0.heap.size W0 wq) (fun z _ => ns.length - (intOf z).toNat)
          case atStart => exact ⟨0, Nat.zero_le _, rfl, fun z hz => by omega, HBr.out⟩
          case round =>
            obtain ⟨z, hz, rfl, hh, hb⟩ := hrel
            have HF := Lib.hid hh
            have HBz := Lib.hid hb
            clear hh
            by_cases hzl : z < ns.length
            · have hcx := HA.out _ hb x hxl
              have hcy := HA.out _ hb y hyl
              have hcz := HA.out _ hb z hzl
              rw [HMM.out] at hcx
              rw [HRR.out] at hcy
              have hs2 := HX.out z
              have hp3 := EP3.out x y z
              have HZz := Lib.hid (HZ3.out x y z)
              have HWz := Lib.hid (HW3.out x y z)
              have HVz := Lib.hid (HV3.out x y z)
              rw [HMM.out] at HZz HWz
              try rw [HRR.out] at hp3
              obtain ⟨s, hss⟩ : ∃ s, ns.getD z 0 = s := ⟨_, rfl⟩
              rw [hss] at hcz hs2
              try rw [hss] at hp3
              clear hss hb
              have HFn : Hid (R3 x y z = true → ∀ i, i < z + 1 → R3 x y i = true) := Lib.hid (fun h i hi => (Nat.lt_or_ge i z).elim (fun h => HF.out i h) (fun h2 => (show i = z by omega) ▸ h))
              go_wp2_with fail
              refine (spec_l01Bit m z _ (by omega) (by omega)).mono ?_
              rintro e w3 ⟨rfl, rfl⟩
              cases ht : m.testBit z
              · have HF2 := Lib.hid (HFn.out (HZz.out ht))
                clear ht hcx hcy hcz hp3
                go_wp2
                go_roundw
                case rel => exact ⟨z + 1, by omega, by go_num, HF2.out, HBz.out⟩
                case measure => simp [intOf]; omega
              have HF2 := Lib.hid (HFn.out (HVz.out hp3))
              clear ht hcx hcy hcz hp3
              go_wp2
              go_quiet (fail)
              go_wp2
              go_roundw
              case rel => exact ⟨z + 1, by omega, by go_num, HF2.out, below_drewN HBz.out _⟩
              case measure => simp [intOf]; omega
            · obtain rfl : z = ns.length := by omega
              have HG2 := Lib.hid (HGn.out (HY3.out x y HP2.out HF.out))
              clear hb
              go_wp2
              go_roundw
              case rel => exact ⟨y + 1, by omega, by go_num, HG2.out, HBz.out⟩
              case measure => simp [intOf]; omega
        · obtain rfl : y = ns.length := by omega
          have HH2 : Hid (∀ z, z < x + 1 → R1 z = true) := Lib.hid (fun z hz => (Nat.lt_or_ge z x).elim (fun h => HH.out z h) (fun h => (show z = x by omega) ▸ HY2.out x HP1.out HG.out))
          clear hb
          go_wp2
          go_roundw
          case rel => exact ⟨x + 1, by omega, by go_num, HH2.out, HBr.out⟩
          case measure => simp [intOf]; omega
    · obtain rfl : x = ns.length := by omega
      have EF : Hid (RES = true) := Lib.hid (HY1.out HH.out)
      have HBx := Lib.hid hb
      clear hb
      go_wp2
      go_ret
      exact ⟨by rw [EF.out]; rfl, HB.out.trans ((HBx.out).mono HB.out.size)⟩
end Go.Proofs.YtgdmfihnbbgcoaaGreatDoor

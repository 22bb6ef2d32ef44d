/- Contracts of chapter 5: two flags of a frame, of the reference. -/
import Derived.Test.Ytbejakkcdbhmaaa05f
namespace Go.Proofs.Ytbejakkcdbhmaaa
open Go.RowKit
set_option linter.unusedVariables false
set_option linter.unusedSimpArgs false
theorem q_l01Image {v : Value} {ns : List Nat} {m : Nat} {W : World} (h : Sl cI W v (li ns)) (hr : RelN ns) (hm : m < 256) (n : Nat) :
    Calls Try.prog 210 #[v, .int .i64 m] (W.drewN n) fun e w'' => e = .returned (.int .i64 (img ns m : Nat)) ∧ ∃ m, w'' = W.drewN m :=
  (spec_l01Image v ns m _ (h.drewN n) hr hm).mono fun e w' hh => ⟨hh.1, n, hh.2.symm⟩
set_option maxRecDepth 100000 in
theorem spec_l05Flag_2 (ns : List Nat) (v : Value) (w : World) (h : Sl cI w v (li ns)) (hr : RelN ns) :
    Calls Try.prog 132 #[.agg #[.int .i64 ns.length, v], .int .i64 2] w fun e w' => e = .returned (.bool (trv ns)) ∧ Below w.heap.size w w' := by
  obtain ⟨A, c, rfl⟩ := h.opn
  have h8 := hr.1
  have EL := Lib.hid (li_length ns)
  rw [EL.out] at h ⊢
  have hb0 := below_alloc' w (.cells #[.int .i64 ns.length, .slice A ns.length c] 37)
  have hk0 := Blk.new w 37 #[.int .i64 ns.length, .slice A ns.length c]
  have hkl := hk0.lt
  have HS := Lib.hid (h.below hb0)
  have HB := Lib.hid hb0
  have HR := Lib.hid hr
  have HX := Lib.hid (fun i => Nat.lt_of_lt_of_le (getD_lt hr.2 i) (two_pow_256 h8))
  have HG := Lib.hid (fun i => Nat.lt_of_lt_of_le (imgTo_lt hr.2 (ns.getD i 0) ns.length) (two_pow_256 h8))
  obtain ⟨cs, hcs⟩ : ∃ cs, cs = clo ns ns.length := ⟨_, rfl⟩
  have EC : Hid (cs.length = ns.length) := Lib.hid (by rw [hcs, clo_length])
  have HC : Hid (∀ i, cs.getD i 0 < 256) := Lib.hid (fun i => Nat.lt_of_lt_of_le (getD_lt (by rw [hcs]; exact clo_lt hr.2 _) i) (two_pow_256 h8))
  have HT := Lib.hid (fun W (hW : Sl cI W (.slice A ns.length c) (li ns)) => hcs ▸ spec_l01Closure _ ns W hW hr)
  have ET : Hid (trv ns = (List.range ns.length).all fun x => decide (andnot (img ns (ns.getD x 0)) (ns.getD x 0) = 0)) := Lib.hid (by first | rfl | (rw [hcs]; rfl))
  clear h hb0 hr hcs
  go_enter Try.func132, Try.ntmps132
  go_upto_region 1 with fail
  generalize w.alloc (.cells #[.int .i64 (ns.length : Int), .slice A ns.length c] 37) = W0 at *
  have d0 : W0.cell? ⟨w.heap.size, 0, none⟩ = some (.int .i64 ns.length) := hk0.cell 0
  have d1 : W0.cell? ⟨w.heap.size, 1, none⟩ = some (.slice A ns.length c) := hk0.cell 1
  clear hk0
  go_quiet (fail)
  clear d0 d1
  go_wp2
  go_loopw [7] (fun x wr => ∃ j : Nat, j ≤ ns.length ∧ x = .int .i64 j ∧ (∀ x, x < j → (decide (andnot (img ns (ns.getD x 0)) (ns.getD x 0) = 0)) = true) ∧ Below W0.heap.size W0 wr) (fun x _ => ns.length - (intOf x).toNat)
  case atStart => exact ⟨0, Nat.zero_le _, rfl, fun i hi => by omega, below_drewN (Below.refl _ _) _⟩
  case round =>
    obtain ⟨x, hx, rfl, hh, hb⟩ := hrel
    have HH := Lib.hid hh
    clear hh
    by_cases hxl : x < ns.length
    · have hx' : x < (li ns).length := by rw [EL.out]; exact hxl
      obtain ⟨b, o, rfl, hbl, hc0⟩ := (HS.out.below hb).atI hx'
      rw [li_get] at hc0
      have HA : Hid (∀ W, Below W0.heap.size W0 W → True ∧ True ∧ W.cell? ⟨b, o + x, none⟩ = some (.int .i64 (ns.getD x 0 : Nat))) := Lib.hid (fun W hW => by
        obtain ⟨b', o', hbo, -, hc⟩ := (HS.out.below hW).atI hx'
        injection hbo with hbo
        injection hbo with e1 e2
        subst e1
        subst e2
        rw [li_get] at hc
        exact ⟨trivial, trivial, hc⟩)
      have hm := HX.out x
      have HBx := Lib.hid hb
      have HSx := Lib.hid (HS.out.below hb)
      have HQ := Lib.hid (fun n => q_l01Image (m := ns.getD x 0) HSx.out HR.out hm n)
      have hg : img ns (ns.getD x 0) < 256 := HG.out x
      by_cases hz : andnot (img ns (ns.getD x 0)) (ns.getD x 0) = 0
      · have HH2 : Hid (∀ y, y < x + 1 → (decide (andnot (img ns (ns.getD y 0)) (ns.getD y 0) = 0)) = true) := Lib.hid (fun y hy => (Nat.lt_or_ge y x).elim (fun h => HH.out y h) (fun h => (show y = x by omega) ▸ decide_eq_true hz))
        generalize img ns (ns.getD x 0) = g at *
        generalize ns.getD x 0 = m at *
        have e1 := i64_andNot_nat g m (by omega) (by omega)
        rw [hz] at e1
        clear hz hb
        go_wp2
        go_quiet ((go_at_call 210; exact HQ.out _))
        have HBy := Lib.hid (fun q => below_drewN HBx.out q)
        clear HBx hc0
        go_wp2
        go_loopw [8] (fun y wq => ∃ j : Nat, j ≤ ns.length ∧ y = .int .i64 j ∧ Below W0.heap.size W0 wq) (fun y _ => ns.length - (intOf y).toNat)
        case atStart => first | exact ⟨0, Nat.zero_le _, rfl, HBy.out⟩ | exact ⟨0, Nat.zero_le _, rfl, HBy.out _⟩
        case round =>
          obtain ⟨y, hy, rfl, hb⟩ := hrel
          have HBr := Lib.hid hb
          clear HBy
          by_cases hyl : y < ns.length
          · obtain ⟨-, -, hcx⟩ := HA.out _ hb
            clear hb
            go_wp2_with fail
            refine (spec_l01Bit m y _ (by omega) (by omega)).mono ?_
            rintro e w3 ⟨rfl, rfl⟩
            cases ht : m.testBit y
            · clear ht
              go_wp2
              go_roundw
              case rel => exact ⟨y + 1, by omega, by go_num, HBr.out⟩
              case measure => simp [intOf]; omega
            · clear ht hcx
              go_wp2
              go_loopw [9] (fun z wq => ∃ j : Nat, j ≤ ns.length ∧ z = .int .i64 j ∧ Below W0.heap.size W0 wq) (fun z _ => ns.length - (intOf z).toNat)
              case atStart => exact ⟨0, Nat.zero_le _, rfl, HBr.out⟩
              case round =>
                obtain ⟨z, hz, rfl, hb⟩ := hrel
                have HBz := Lib.hid hb
                clear HBr
                by_cases hzl : z < ns.length
                · obtain ⟨-, -, hcx⟩ := HA.out _ hb
                  clear hb
                  go_wp2_with fail
                  refine (spec_l01Bit m z _ (by omega) (by omega)).mono ?_
                  rintro e w3 ⟨rfl, rfl⟩
                  cases ht : m.testBit z
                  · clear ht
                    go_wp2
                    go_roundw
                    case rel => exact ⟨z + 1, by omega, by go_num, HBz.out⟩
                    case measure => simp [intOf]; omega
                  · clear ht hcx
                    go_wp2
                    go_quiet (fail)
                    go_wp2
                    go_roundw
                    case rel => exact ⟨z + 1, by omega, by go_num, below_drewN HBz.out _⟩
                    case measure => simp [intOf]; omega
                · obtain rfl : z = ns.length := by omega
                  clear hb
                  go_wp2
                  go_roundw
                  case rel => exact ⟨y + 1, by omega, by go_num, HBz.out⟩
                  case measure => simp [intOf]; omega
          · obtain rfl : y = ns.length := by omega
            clear hb
            go_wp2
            go_roundw
            case rel => exact ⟨x + 1, by omega, by go_num, HH2.out, HBr.out⟩
            case measure => simp [intOf]; omega
      · have hd : (((andnot (img ns (ns.getD x 0)) (ns.getD x 0) : Nat) : Int) != 0) = true := by rw [bne_iff_ne]; omega
        have EF : Hid (trv ns = false) := Lib.hid (by
          rw [ET.out, ← Bool.not_eq_true, List.all_eq_true]
          exact fun h => hz (of_decide_eq_true (h x (List.mem_range.2 hxl))))
        have e1 := i64_andNot_nat (img ns (ns.getD x 0)) (ns.getD x 0) (by omega) (by omega)
        generalize andnot (img ns (ns.getD x 0)) (ns.getD x 0) = r at *
        generalize img ns (ns.getD x 0) = g at *
        generalize ns.getD x 0 = m at *
        clear hz hb
        go_wp2
        go_quiet ((go_at_call 210; exact HQ.out _))
        go_wp2
        go_ret
        exact ⟨by rw [EF.out]; rfl, HB.out.trans ((below_drewN HBx.out _).mono HB.out.size)⟩
    · have EF : Hid (trv ns = true) := Lib.hid (by rw [ET.out, List.all_eq_true]; exact fun i hi => HH.out i (by rw [List.mem_range] at hi; omega))
      have HBx := Lib.hid hb
      clear hb
      go_wp2
      go_ret
      exact ⟨by rw [EF.out]; rfl, HB.out.trans (HBx.out.mono HB.out.size)⟩
set_option maxRecDepth 100000 in
theorem spec_l05Flag_7 (ns : List Nat) (v : Value) (w : World) (h : Sl cI w v (li ns)) (hr : RelN ns) :
    Calls Try.prog 132 #[.agg #[.int .i64 ns.length, v], .int .i64 7] w fun e w' => e = .returned (.bool (acy ns)) ∧ Below w.heap.size w w' := by
  obtain ⟨A, c, rfl⟩ := h.opn
  have h8 := hr.1
  have EL := Lib.hid (li_length ns)
  rw [EL.out] at h ⊢
  have hb0 := below_alloc' w (.cells #[.int .i64 ns.length, .slice A ns.length c] 37)
  have hk0 := Blk.new w 37 #[.int .i64 ns.length, .slice A ns.length c]
  have hkl := hk0.lt
  have HS := Lib.hid (h.below hb0)
  have HB := Lib.hid hb0
  have HR := Lib.hid hr
  have HX := Lib.hid (fun i => Nat.lt_of_lt_of_le (getD_lt hr.2 i) (two_pow_256 h8))
  have HG := Lib.hid (fun i => Nat.lt_of_lt_of_le (imgTo_lt hr.2 (ns.getD i 0) ns.length) (two_pow_256 h8))
  obtain ⟨cs, hcs⟩ : ∃ cs, cs = clo ns ns.length := ⟨_, rfl⟩
  have EC : Hid (cs.length = ns.length) := Lib.hid (by rw [hcs, clo_length])
  have HC : Hid (∀ i, cs.getD i 0 < 256) := Lib.hid (fun i => Nat.lt_of_lt_of_le (getD_lt (by rw [hcs]; exact clo_lt hr.2 _) i) (two_pow_256 h8))
  have HT := Lib.hid (fun W (hW : Sl cI W (.slice A ns.length c) (li ns)) => hcs ▸ spec_l01Closure _ ns W hW hr)
  have ET : Hid (acy ns = (List.range ns.length).all fun x => !(cs.getD x 0).testBit x) := Lib.hid (by first | rfl | (rw [hcs]; rfl))
  clear h hb0 hr hcs
  go_enter Try.func132, Try.ntmps132
  go_upto_region 1 with fail
  generalize w.alloc (.cells #[.int .i64 (ns.length : Int), .slice A ns.length c] 37) = W0 at *
  have d0 : W0.cell? ⟨w.heap.size, 0, none⟩ = some (.int .i64 ns.length) := hk0.cell 0
  have d1 : W0.cell? ⟨w.heap.size, 1, none⟩ = some (.slice A ns.length c) := hk0.cell 1
  clear hk0
  go_quiet (fail)
  clear d0 d1
  go_wp2
  go_loopw [7] (fun x wr => ∃ j : Nat, j ≤ ns.length ∧ x = .int .i64 j ∧ (∀ x, x < j → (!(cs.getD x 0).testBit x) = true) ∧ Below W0.heap.size W0 wr) (fun x _ => ns.length - (intOf x).toNat)
  case atStart => exact ⟨0, Nat.zero_le _, rfl, fun i hi => by omega, below_drewN (Below.refl _ _) _⟩
  case round =>
    obtain ⟨x, hx, rfl, hh, hb⟩ := hrel
    have HH := Lib.hid hh
    clear hh
    by_cases hxl : x < ns.length
    · have hx' : x < (li ns).length := by rw [EL.out]; exact hxl
      obtain ⟨b, o, rfl, hbl, hc0⟩ := (HS.out.below hb).atI hx'
      rw [li_get] at hc0
      have HA : Hid (∀ W, Below W0.heap.size W0 W → True ∧ True ∧ W.cell? ⟨b, o + x, none⟩ = some (.int .i64 (ns.getD x 0 : Nat))) := Lib.hid (fun W hW => by
        obtain ⟨b', o', hbo, -, hc⟩ := (HS.out.below hW).atI hx'
        injection hbo with hbo
        injection hbo with e1 e2
        subst e1
        subst e2
        rw [li_get] at hc
        exact ⟨trivial, trivial, hc⟩)
      have hm := HX.out x
      have HBx := Lib.hid hb
      have HSx := Lib.hid (HS.out.below hb)
      generalize ns.getD x 0 = m at *
      clear hb
      go_wp2_with fail
      refine (HT.out _ HSx.out).mono ?_
      rintro e w3 ⟨u, rfl, ho, hb⟩
      have hxc : x < (li cs).length := by rw [li_length, EC.out]; exact hxl
      obtain ⟨A2, c2, rfl⟩ := ho.opn
      obtain ⟨b2, o2, rfl, hbl2, hd0⟩ := ho.sl.atI hxc
      rw [li_get] at hd0
      have hxl2 : (x : Int) < ((li cs).length : Int) := by omega
      have hr2 := HC.out x
      have HBy := Lib.hid (bthen HBx.out hb)
      clear ho hb HBx hc0
      generalize (li cs).length = L at *
      cases ht : (cs.getD x 0).testBit x
      · have HH2 : Hid (∀ y, y < x + 1 → (!(cs.getD y 0).testBit y) = true) := Lib.hid (fun y hy => (Nat.lt_or_ge y x).elim (fun h => HH.out y h) (fun h => (show y = x by omega) ▸ (by rw [ht]; rfl)))
        generalize cs.getD x 0 = r at *
        go_wp2_with fail
        refine (spec_l01Bit r x _ (by omega) (by omega)).mono ?_
        rintro e w4 ⟨rfl, rfl⟩
        rw [ht]
        clear ht hd0
        go_wp2
        go_loopw [8] (fun y wq => ∃ j : Nat, j ≤ ns.length ∧ y = .int .i64 j ∧ Below W0.heap.size W0 wq) (fun y _ => ns.length - (intOf y).toNat)
        case atStart => first | exact ⟨0, Nat.zero_le _, rfl, HBy.out⟩ | exact ⟨0, Nat.zero_le _, rfl, HBy.out _⟩
        case round =>
          obtain ⟨y, hy, rfl, hb⟩ := hrel
          have HBr := Lib.hid hb
          clear HBy
          by_cases hyl : y < ns.length
          · obtain ⟨-, -, hcx⟩ := HA.out _ hb
            clear hb
            go_wp2_with fail
            refine (spec_l01Bit m y _ (by omega) (by omega)).mono ?_
            rintro e w3 ⟨rfl, rfl⟩
            cases ht : m.testBit y
            · clear ht
              go_wp2
              go_roundw
              case rel => exact ⟨y + 1, by omega, by go_num, HBr.out⟩
              case measure => simp [intOf]; omega
            · clear ht hcx
              go_wp2
              go_loopw [9] (fun z wq => ∃ j : Nat, j ≤ ns.length ∧ z = .int .i64 j ∧ Below W0.heap.size W0 wq) (fun z _ => ns.length - (intOf z).toNat)
              case atStart => exact ⟨0, Nat.zero_le _, rfl, HBr.out⟩
              case round =>
                obtain ⟨z, hz, rfl, hb⟩ := hrel
                have HBz := Lib.hid hb
                clear HBr
                by_cases hzl : z < ns.length
                · obtain ⟨-, -, hcx⟩ := HA.out _ hb
                  clear hb
                  go_wp2_with fail
                  refine (spec_l01Bit m z _ (by omega) (by omega)).mono ?_
                  rintro e w3 ⟨rfl, rfl⟩
                  cases ht : m.testBit z
                  · clear ht
                    go_wp2
                    go_roundw
                    case rel => exact ⟨z + 1, by omega, by go_num, HBz.out⟩
                    case measure => simp [intOf]; omega
                  · clear ht hcx
                    go_wp2
                    go_quiet (fail)
                    go_wp2
                    go_roundw
                    case rel => exact ⟨z + 1, by omega, by go_num, below_drewN HBz.out _⟩
                    case measure => simp [intOf]; omega
                · obtain rfl : z = ns.length := by omega
                  clear hb
                  go_wp2
                  go_roundw
                  case rel => exact ⟨y + 1, by omega, by go_num, HBz.out⟩
                  case measure => simp [intOf]; omega
          · obtain rfl : y = ns.length := by omega
            clear hb
            go_wp2
            go_roundw
            case rel => exact ⟨x + 1, by omega, by go_num, HH2.out, HBr.out⟩
            case measure => simp [intOf]; omega
      · have EF : Hid (acy ns = false) := Lib.hid (by
          rw [ET.out, ← Bool.not_eq_true, List.all_eq_true]
          exact fun h => absurd (h x (List.mem_range.2 hxl)) (by rw [ht]; decide))
        generalize cs.getD x 0 = r at *
        go_wp2_with fail
        refine (spec_l01Bit r x _ (by omega) (by omega)).mono ?_
        rintro e w4 ⟨rfl, rfl⟩
        rw [ht]
        clear ht hd0
        go_wp2
        go_ret
        exact ⟨by rw [EF.out]; rfl, HB.out.trans (HBy.out.mono HB.out.size)⟩
    · have EF : Hid (acy ns = true) := Lib.hid (by rw [ET.out, List.all_eq_true]; exact fun i hi => HH.out i (by rw [List.mem_range] at hi; omega))
      have HBx := Lib.hid hb
      clear hb
      go_wp2
      go_ret
      exact ⟨by rw [EF.out]; rfl, HB.out.trans (HBx.out.mono HB.out.size)⟩
end Go.Proofs.Ytbejakkcdbhmaaa

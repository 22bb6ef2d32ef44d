/- Joined of several texts: 05h, 05g. -/
import Derived.Test.YtkdldfomdbgcaaaGreat05f
namespace Go.Proofs.YtkdldfomdbgcaaaGreat
open Go.RowKit
set_option linter.unusedVariables false
set_option linter.unusedSimpArgs false
/- Contracts of chapter 5: two flags of a frame, of the reference. -/
theorem q_l01Image {v : Value} {ns : List Nat} {m : Nat} {W : World} (h : Sl cI W v (li ns)) (hr : RelN ns) (hm : m < 256) (n : Nat) :
    Calls Tryz.prog 108 #[v, .int .i64 m] (W.drewN n) fun e w'' => e = .returned (.int .i64 (img ns m : Nat)) ∧ ∃ m, w'' = W.drewN m :=
  (spec_l01Image v ns m _ (h.drewN n) hr hm).mono fun e w' hh => ⟨hh.1, n, hh.2.symm⟩
set_option maxRecDepth 100000 in
theorem spec_l05Flag_2 (ns : List Nat) (v : Value) (w : World) (h : Sl cI w v (li ns)) (hr : RelN ns) :
    Calls Tryz.prog 69 #[.agg #[.int .i64 ns.length, v], .int .i64 2] w fun e w' => e = .returned (.bool (trv ns)) ∧ Below w.heap.size w w' := by
  obtain ⟨A, c, rfl⟩ := h.opn
  have h8 := hr.1
  have EL := Lib.hid (li_length ns)
  rw [EL.out] at h ⊢
  have hb0 := below_alloc' w (.cells #[.int .i64 ns.length, .slice A ns.length c] 68)
  have hk0 := Blk.new w 68 #[.int .i64 ns.length, .slice A ns.length c]
  have hkl := hk0.lt
  have HS := Lib.hid (h.below hb0)
  have HB := Lib.hid hb0
  have HR := Lib.hid hr
  have HX := Lib.hid (fun i => Nat.lt_of_lt_of_le (getD_lt hr.2 i) (two_pow_256 h8))
  have HG := Lib.hid (fun i => Nat.lt_of_lt_of_le (imgTo_lt hr.2 (ns.getD i 0) ns.length) (two_pow_256 h8))
  obtain ⟨cs, hcs⟩ : ∃ cs, cs = clo ns ns.length := ⟨_, rfl⟩
  have EC : Hid (cs.length = ns.length) := Lib.hid (by rw [hcs, clo_length])
  have HC : Hid (∀ i, cs.getD i 0 < 256) := Lib.hid (fun i => Nat.lt_of_lt_of_le (getD_lt (by rw [hcs]; exact clo_lt hr.2 _) i) (two_pow_256 h8))
  have HT := Lib.hid (fun W (hW : Sl cI W (.slice A ns.length c) (li ns)) => hcs ▸ spec_l01Closure _ ns W hW hr)
  have ET : Hid (trv ns = (List.range ns.length).all fun x => decide (andnot (img ns (ns.getD x 0)) (ns.getD x 0) = 0)) := Lib.hid (by first | rfl | (rw [hcs]; rfl))
  clear h hb0 hr hcs
  go_enter Tryz.func69, Tryz.ntmps69
  go_upto_region 1 with fail
  generalize w.alloc (.cells #[.int .i64 (ns.length : Int), .slice A ns.length c] 68) = W0 at *
  have d0 : W0.cell? ⟨w.heap.size, 0, none⟩ = some (.int .i64 ns.length) := hk0.cell 0
  have d1 : W0.cell? ⟨w.heap.size, 1, none⟩ = some (.slice A ns.length c) := hk0.cell 1
  clear hk0
  go_quiet (fail)
  clear d0 d1
  go_wp2
  go_loopw [7] (fun x wr => ∃ j : Nat, j ≤ ns.length ∧ x = .int .i64 j ∧ (∀ x, x < j → (decide (andnot (img ns (ns.getD x 0)) (ns.getD x 0) = 0)) = true) ∧ Below W0.heap.size W0 wr) (fun x _ => ns.length - (intOf x).toNat)
  case atStart => exact ⟨0, Nat.zero_le _, rfl, fun i hi => by omega, below_drewN (Below.refl _ _) _⟩
  case round =>
    obtain ⟨x, hx, rfl, hh, hb⟩ := hrel
    have HH := Lib.hid hh
    clear hh
    by_cases hxl : x < ns.length
    · have hx' : x < (li ns).length := by rw [EL.out]; exact hxl
      obtain ⟨b, o, rfl, hbl, hc0⟩ := (HS.out.below hb).atI hx'
      rw [li_get] at hc0
      have HA : Hid (∀ W, Below W0.heap.size W0 W → True ∧ True ∧ W.cell? ⟨b, o + x, none⟩ = some (.int .i64 (ns.getD x 0 : Nat))) := Lib.hid (fun W hW => by
        obtain ⟨b', o', hbo, -, hc⟩ := (HS.out.below hW).atI hx'
        injection hbo with hbo
        injection hbo with e1 e2
        subst e1
        subst e2
        rw [li_get] at hc
        exact ⟨trivial, trivial, hc⟩)
      have hm := HX.out x
      have HBx := Lib.hid hb
      have HSx := Lib.hid (HS.out.below hb)
      have HQ := Lib.hid (fun n => q_l01Image (m := ns.getD x 0) HSx.out HR.out hm n)
      have hg : img ns (ns.getD x 0) < 256 := HG.out x
      by_cases hz : andnot (img ns (ns.getD x 0)) (ns.getD x 0) = 0
      · have HH2 : Hid (∀ y, y < x + 1 → (decide (andnot (img ns (ns.getD y 0)) (ns.getD y 0) = 0)) = true) := Lib.hid (fun y hy => (Nat.lt_or_ge y x).elim (fun h => HH.out y h) (fun h => (show y = x by omega) ▸ decide_eq_true hz))
        generalize img ns (ns.getD x 0) = g at *
        generalize ns.getD x 0 = m at *
        have e1 := i64_andNot_nat g m (by omega) (by omega)
        rw [hz] at e1
        clear hz hb
        go_wp2
        go_quiet ((go_at_call 108; exact HQ.out _))
        have HBy := Lib.hid (fun q => below_drewN HBx.out q)
        clear HBx hc0
        go_wp2
        go_loopw [8] (fun y wq => ∃ j : Nat, j ≤ ns.length ∧ y = .int .i64 j ∧ Below W0.heap.size W0 wq) (fun y _ => ns.length - (intOf y).toNat)
        case atStart => first | exact ⟨0, Nat.zero_le _, rfl, HBy.out⟩ | exact ⟨0, Nat.zero_le _, rfl, HBy.out _⟩
        case round =>
          obtain ⟨y, hy, rfl, hb⟩ := hrel
          have HBr := Lib.hid hb
          clear HBy
          by_cases hyl : y < ns.length
          · obtain ⟨-, -, hcx⟩ := HA.out _ hb
            clear hb
            go_wp2_with fail
            refine (spec_l01Bit m y _ (by omega) (by omega)).mono ?_
            rintro e w3 ⟨rfl, rfl⟩
            cases ht : m.testBit y
            · clear ht
              go_wp2
              go_roundw
              case rel => exact ⟨y + 1, by omega, by go_num, HBr.out⟩
              case measure => simp [intOf]; omega
            · clear ht hcx
              go_wp2
              go_loopw [9] (fun z wq => ∃ j : Nat, j ≤ ns.length ∧ z = .int .i64 j ∧ Below W0.heap.size W0 wq) (fun z _ => ns.length - (intOf z).toNat)
              case atStart => exact ⟨0, Nat.zero_le _, rfl, HBr.out⟩
              case round =>
                obtain ⟨z, hz, rfl, hb⟩ := hrel
                have HBz := Lib.hid hb
                clear HBr
                by_cases hzl : z < ns.length
                · obtain ⟨-, -, hcx⟩ := HA.out _ hb
                  clear hb
                  go_wp2_with fail
                  refine (spec_l01Bit m z _ (by omega) (by omega)).mono ?_
                  rintro e w3 ⟨rfl, rfl⟩
                  cases ht : m.testBit z
                  · clear ht
                    go_wp2
                    go_roundw
                    case rel => exact ⟨z + 1, by omega, by go_num, HBz.out⟩
                    case measure => simp [intOf]; omega
                  · clear ht hcx
                    go_wp2
                    go_quiet (fail)
                    go_wp2
                    go_roundw
                    case rel => exact ⟨z + 1, by omega, by go_num, below_drewN HBz.out _⟩
                    case measure => simp [intOf]; omega
                · obtain rfl : z = ns.length := by omega
                  clear hb
                  go_wp2
                  go_roundw
                  case rel => exact ⟨y + 1, by omega, by go_num, HBz.out⟩
                  case measure => simp [intOf]; omega
          · obtain rfl : y = ns.length := by omega
            clear hb
            go_wp2
            go_roundw
            case rel => exact ⟨x + 1, by omega, by go_num, HH2.out, HBr.out⟩
            case measure => simp [intOf]; omega
      · have hd : (((andnot (img ns (ns.getD x 0)) (ns.getD x 0) : Nat) : Int) != 0) = true := by rw [bne_iff_ne]; omega
        have EF : Hid (trv ns = false) := Lib.hid (by
          rw [ET.out, ← Bool.not_eq_true, List.all_eq_true]
          exact fun h => hz (of_decide_eq_true (h x (List.mem_range.2 hxl))))
        have e1 := i64_andNot_nat (img ns (ns.getD x 0)) (ns.getD x 0) (by omega) (by omega)
        generalize andnot (img ns (ns.getD x 0)) (ns.getD x 0) = r at *
        generalize img ns (ns.getD x 0) = g at *
        generalize ns.getD x 0 = m at *
        clear hz hb
        go_wp2
        go_quiet ((go_at_call 108; exact HQ.out _))
        go_wp2
        go_ret
        exact ⟨by rw [EF.out]; rfl, HB.out.trans ((below_drewN HBx.out _).mono HB.out.size)⟩
    · have EF : Hid (trv ns = true) := Lib.hid (by rw [ET.out, List.all_eq_true]; exact fun i hi => HH.out i (by rw [List.mem_range] at hi; omega))
      have HBx := Lib.hid hb
      clear hb
      go_wp2
      go_ret
      exact ⟨by rw [EF.out]; rfl, HB.out.trans (HBx.out.mono HB.out.size)⟩
set_option maxRecDepth 100000 in
theorem spec_l05Flag_7 (ns : List Nat) (v : Value) (w : World) (h : Sl cI w v (li ns)) (hr : RelN ns) :
    Calls Tryz.prog 69 #[.agg #[.int .i64 ns.length, v], .int .i64 7] w fun e w' => e = .returned (.bool (acy ns)) ∧ Below w.heap.size w w' := by
  obtain ⟨A, c, rfl⟩ := h.opn
  have h8 := hr.1
  have EL := Lib.hid (li_length ns)
  rw [EL.out] at h ⊢
  have hb0 := below_alloc' w (.cells #[.int .i64 ns.length, .slice A ns.length c] 68)
  have hk0 := Blk.new w 68 #[.int .i64 ns.length, .slice A ns.length c]
  have hkl := hk0.lt
  have HS := Lib.hid (h.below hb0)
  have HB := Lib.hid hb0
  have HR := Lib.hid hr
  have HX := Lib.hid (fun i => Nat.lt_of_lt_of_le (getD_lt hr.2 i) (two_pow_256 h8))
  have HG := Lib.hid (fun i => Nat.lt_of_lt_of_le (imgTo_lt hr.2 (ns.getD i 0) ns.length) (two_pow_256 h8))
  obtain ⟨cs, hcs⟩ : ∃ cs, cs = clo ns ns.length := ⟨_, rfl⟩
  have EC : Hid (cs.length = ns.length) := Lib.hid (by rw [hcs, clo_length])
  have HC : Hid (∀ i, cs.getD i 0 < 256) := Lib.hid (fun i => Nat.lt_of_lt_of_le (getD_lt (by rw [hcs]; exact clo_lt hr.2 _) i) (two_pow_256 h8))
  have HT := Lib.hid (fun W (hW : Sl cI W (.slice A ns.length c) (li ns)) => hcs ▸ spec_l01Closure _ ns W hW hr)
  have ET : Hid (acy ns = (List.range ns.length).all fun x => !(cs.getD x 0).testBit x) := Lib.hid (by first | rfl | (rw [hcs]; rfl))
  clear h hb0 hr hcs
  go_enter Tryz.func69, Tryz.ntmps69
  go_upto_region 1 with fail
  generalize w.alloc (.cells #[.int .i64 (ns.length : Int), .slice A ns.length c] 68) = W0 at *
  have d0 : W0.cell? ⟨w.heap.size, 0, none⟩ = some (.int .i64 ns.length) := hk0.cell 0
  have d1 : W0.cell? ⟨w.heap.size, 1, none⟩ = some (.slice A ns.length c) := hk0.cell 1
  clear hk0
  go_quiet (fail)
  clear d0 d1
  go_wp2
  go_loopw [7] (fun x wr => ∃ j : Nat, j ≤ ns.length ∧ x = .int .i64 j ∧ (∀ x, x < j → (!(cs.getD x 0).testBit x) = true) ∧ Below W0.heap.size W0 wr) (fun x _ => ns.length - (intOf x).toNat)
  case atStart => exact ⟨0, Nat.zero_le _, rfl, fun i hi => by omega, below_drewN (Below.refl _ _) _⟩
  case round =>
    obtain ⟨x, hx, rfl, hh, hb⟩ := hrel
    have HH := Lib.hid hh
    clear hh
    by_cases hxl : x < ns.length
    · have hx' : x < (li ns).length := by rw [EL.out]; exact hxl
      obtain ⟨b, o, rfl, hbl, hc0⟩ := (HS.out.below hb).atI hx'
      rw [li_get] at hc0
      have HA : Hid (∀ W, Below W0.heap.size W0 W → True ∧ True ∧ W.cell? ⟨b, o + x, none⟩ = some (.int .i64 (ns.getD x 0 : Nat))) := Lib.hid (fun W hW => by
        obtain ⟨b', o', hbo, -, hc⟩ := (HS.out.below hW).atI hx'
        injection hbo with hbo
        injection hbo with e1 e2
        subst e1
        subst e2
        rw [li_get] at hc
        exact ⟨trivial, trivial, hc⟩)
      have hm := HX.out x
      have HBx := Lib.hid hb
      have HSx := Lib.hid (HS.out.below hb)
      generalize ns.getD x 0 = m at *
      clear hb
      go_wp2_with fail
      refine (HT.out _ HSx.out).mono ?_
      rintro e w3 ⟨u, rfl, ho, hb⟩
      have hxc : x < (li cs).length := by rw [li_length, EC.out]; exact hxl
      obtain ⟨A2, c2, rfl⟩ := ho.opn
      obtain ⟨b2, o2, rfl, hbl2, hd0⟩ := ho.sl.atI hxc
      rw [li_get] at hd0
      have hxl2 : (x : Int) < ((li cs).length : Int) := by omega
      have hr2 := HC.out x
      have HBy := Lib.hid (bthen HBx.out hb)
      clear ho hb HBx hc0
      generalize (li cs).length = L at *
      cases ht : (cs.getD x 0).testBit x
      · have HH2 : Hid (∀ y, y < x + 1 → (!(cs.getD y 0).testBit y) = true) := Lib.hid (fun y hy => (Nat.lt_or_ge y x).elim (fun h => HH.out y h) (fun h => (show y = x by omega) ▸ (by rw [ht]; rfl)))
        generalize cs.getD x 0 = r at *
        go_wp2_with fail
        refine (spec_l01Bit r x _ (by omega) (by omega)).mono ?_
        rintro e w4 ⟨rfl, rfl⟩
        rw [ht]
        clear ht hd0
        go_wp2
        go_loopw [8] (fun y wq => ∃ j : Nat, j ≤ ns.length ∧ y = .int .i64 j ∧ Below W0.heap.size W0 wq) (fun y _ => ns.length - (intOf y).toNat)
        case atStart => first | exact ⟨0, Nat.zero_le _, rfl, HBy.out⟩ | exact ⟨0, Nat.zero_le _, rfl, HBy.out _⟩
        case round =>
          obtain ⟨y, hy, rfl, hb⟩ := hrel
          have HBr := Lib.hid hb
          clear HBy
          by_cases hyl : y < ns.length
          · obtain ⟨-, -, hcx⟩ := HA.out _ hb
            clear hb
            go_wp2_with fail
            refine (spec_l01Bit m y _ (by omega) (by omega)).mono ?_
            rintro e w3 ⟨rfl, rfl⟩
            cases ht : m.testBit y
            · clear ht
              go_wp2
              go_roundw
              case rel => exact ⟨y + 1, by omega, by go_num, HBr.out⟩
              case measure => simp [intOf]; omega
            · clear ht hcx
              go_wp2
              go_loopw [9] (fun z wq => ∃ j : Nat, j ≤ ns.length ∧ z = .int .i64 j ∧ Below W0.heap.size W0 wq) (fun z _ => ns.length - (intOf z).toNat)
              case atStart => exact ⟨0, Nat.zero_le _, rfl, HBr.out⟩
              case round =>
                obtain ⟨z, hz, rfl, hb⟩ := hrel
                have HBz := Lib.hid hb
                clear HBr
                by_cases hzl : z < ns.length
                · obtain ⟨-, -, hcx⟩ := HA.out _ hb
                  clear hb
                  go_wp2_with fail
                  refine (spec_l01Bit m z _ (by omega) (by omega)).mono ?_
                  rintro e w3 ⟨rfl, rfl⟩
                  cases ht : m.testBit z
                  · clear ht
                    go_wp2
                    go_roundw
                    case rel => exact ⟨z + 1, by omega, by go_num, HBz.out⟩
                    case measure => simp [intOf]; omega
                  · clear ht hcx
                    go_wp2
                    go_quiet (fail)
                    go_wp2
                    go_roundw
                    case rel => exact ⟨z + 1, by omega, by go_num, below_drewN HBz.out _⟩
                    case measure => simp [intOf]; omega
                · obtain rfl : z = ns.length := by omega
                  clear hb
                  go_wp2
                  go_roundw
                  case rel => exact ⟨y + 1, by omega, by go_num, HBz.out⟩
                  case measure => simp [intOf]; omega
          · obtain rfl : y = ns.length := by omega
            clear hb
            go_wp2
            go_roundw
            case rel => exact ⟨x + 1, by omega, by go_num, HH2.out, HBr.out⟩
            case measure => simp [intOf]; omega
      · have EF : Hid (acy ns = false) := Lib.hid (by
          rw [ET.out, ← Bool.not_eq_true, List.all_eq_true]
          exact fun h => absurd (h x (List.mem_range.2 hxl)) (by rw [ht]; decide))
        generalize cs.getD x 0 = r at *
        go_wp2_with fail
        refine (spec_l01Bit r x _ (by omega) (by omega)).mono ?_
        rintro e w4 ⟨rfl, rfl⟩
        rw [ht]
        clear ht hd0
        go_wp2
        go_ret
        exact ⟨by rw [EF.out]; rfl, HB.out.trans (HBy.out.mono HB.out.size)⟩
    · have EF : Hid (acy ns = true) := Lib.hid (by rw [ET.out, List.all_eq_true]; exact fun i hi => HH.out i (by rw [List.mem_range] at hi; omega))
      have HBx := Lib.hid hb
      clear hb
      go_wp2
      go_ret
      exact ⟨by rw [EF.out]; rfl, HB.out.trans (HBx.out.mono HB.out.size)⟩
/- Contracts of chapter 5: two flags of a frame, of the program. -/
theorem li_eq_iff (a b : List Nat) : decide (li a = li b) = decide (a = b) := by
  have : li a = li b ↔ a = b := by
    unfold li
    constructor
    · intro h
      exact (List.map_inj_right (fun x y h => Int.ofNat.inj h)).1 h
    · intro h; rw [h]
  rw [Bool.eq_iff_iff, decide_eq_true_eq, decide_eq_true_eq, this]
theorem impl_hasFlag_6 (x : Nat) (B : Nat) (A : Option Addr) (n c : Nat) (cs : List Nat) (w : World) (hc : w.cell? ⟨B, 0, none⟩ = some (.slice A n c)) (h : Sl cI w (.slice A n c) (li cs)) (hx : x < cs.length) (h8 : cs.length ≤ 8) (hb : cs.getD x 0 < 256) :
    Calls Tryz.prog 157 #[.int .i64 x, .pointer (some ⟨B, 0, none⟩)] w fun e w' => e = .returned (.bool (!(cs.getD x 0).testBit x)) ∧ Below w.heap.size w w' := by
  have hx' : x < (li cs).length := by rw [li_length]; exact hx
  have hn : n = (li cs).length := by
    obtain ⟨A', c', hv⟩ := h.opn
    injection hv
  subst hn
  obtain ⟨b, o, rfl, hbl, hc0⟩ := h.atI hx'
  rw [li_get] at hc0
  have hxl : (x : Int) < ((li cs).length : Int) := by omega
  generalize (li cs).length = L at *
  generalize cs.getD x 0 = y at *
  clear h
  go_enter Tryz.func157, Tryz.ntmps157
  go_wp2_with fail
  refine (impl_has y x _ (by omega) (by omega)).mono ?_
  rintro e w1 ⟨rfl, rfl⟩
  go_wp2
  go_ret
  exact ⟨rfl, Below.refl _ _⟩
theorem en_hasFlag_6 : ∀ (args : Array Value) (w : World), (callFunc 157 args).run Tryz.prog w = .ok (.enter 157 args) w := enters Tryz.func157 (by kernel_rfl) (by kernel_rfl)
set_option maxRecDepth 100000 in
theorem impl_hasFlag_2 (ns : List Nat) (v : Value) (w : World) (h : Sl cI w v (li ns)) (hr : RelN ns) :
    Calls Tryz.prog 118 #[.agg #[.int .i64 ns.length, v], .int .i64 2] w fun e w' => e = .returned (.bool (trv ns)) ∧ Below w.heap.size w w' := by
  obtain ⟨A, c, rfl⟩ := h.opn
  have h8 := hr.1
  have EL := Lib.hid (li_length ns)
  rw [EL.out] at h ⊢
  have hb0 := below_alloc' w (.cells #[.int .i64 ns.length, .slice A ns.length c] 68)
  have hk0 := Blk.new w 68 #[.int .i64 ns.length, .slice A ns.length c]
  have hkl := hk0.lt
  have HK := Lib.hid hk0
  have HS := Lib.hid (h.below hb0)
  have HB := Lib.hid hb0
  have HN := Lib.hid hr
  obtain ⟨cs, hcs⟩ : ∃ cs, cs = clo ns ns.length := ⟨_, rfl⟩
  have EC : Hid (cs.length = ns.length) := Lib.hid (by rw [hcs, clo_length])
  have HC : Hid (∀ i, cs.getD i 0 < 256) := Lib.hid (fun i => Nat.lt_of_lt_of_le (getD_lt (by rw [hcs]; exact clo_lt hr.2 _) i) (two_pow_256 h8))
  have HT := Lib.hid (fun W (hW : Sl cI W (.slice A ns.length c) (li ns)) => hcs ▸ impl_transitive _ ns W hW hr)
  have HE := Lib.hid (fun W vB (hW : Sl cI W vB (li cs)) (hW2 : Sl cI W (.slice A ns.length c) (li ns)) => slices_Equal_int64 _ _ _ _ W hW hW2 (by rw [li_length, EC.out]; omega) (by rw [li_length, li_length, EC.out]))
  have ET : Hid (trv ns = decide (li cs = li ns)) := Lib.hid (by rw [li_eq_iff, trv_clo, hcs])
  have EA : Hid (acy ns = (List.range ns.length).all fun x => !(cs.getD x 0).testBit x) := Lib.hid (by rw [hcs]; rfl)
  clear h hb0 hk0 hr hcs
  go_enter Tryz.func118, Tryz.ntmps118
  go_wp2_with fail
  refine (impl_inverse _ ns _ HS.out HN.out).mono ?_
  rintro e w1 ⟨A1, m1, c1, rfl, hb⟩
  have HS1 := Lib.hid (HS.out.below hb)
  have HK1 := Lib.hid (HK.out.below hb hkl)
  have HB1 := Lib.hid (HB.out.trans (hb.mono HB.out.size))
  clear hb
  go_upto_region 8 with fail
  have hb2 := below_alloc' w1 (.cells #[.slice A1 m1 c1] 22)
  have HS2 := Lib.hid (HS1.out.below hb2)
  have hk2 := HK1.out.below hb2 HK1.out.lt
  have HK2 := Lib.hid hk2
  have HB2 := Lib.hid (bthen HB1.out hb2)
  clear hb2 HS1 HK1 HB1
  generalize w1.alloc (.cells #[.slice A1 m1 c1] 22) = W at *
  have d0 : W.cell? ⟨w.heap.size, 0, none⟩ = some (.int .i64 ns.length) := hk2.cell 0
  have d1 : W.cell? ⟨w.heap.size, 1, none⟩ = some (.slice A ns.length c) := hk2.cell 1
  have hlt := hk2.lt
  clear hk2
  go_region_held3 (fun w' => w'.cell? ⟨w.heap.size, 1, none⟩ = some (.slice A ns.length c)) (first | exact d1'' | exact d1' | exact d1 | (simp [*]; done)) (first | (go_at_call 152; refine (HT.out _ (HS2.out.below (below_drewN (Below.refl _ _) 1))).mono ?_; rintro e w2 ⟨u, rfl, ho, hb2⟩; have hb3 : Below W.heap.size W w2 := (below_drewN (Below.refl _ _) 1).trans hb2; have d1' := (hb3.cell (p := ⟨w.heap.size, 1, none⟩) hlt).trans d1; have hs3 := HS2.out.below hb3) | (go_at_call 151; refine (HE.out _ _ ho.sl hs3).mono ?_; rintro e w3 ⟨rfl, hb4⟩; have d1'' := (hb4.cell (p := ⟨w.heap.size, 1, none⟩) (Nat.lt_of_lt_of_le hlt hb3.size)).trans d1'))
  all_goals
    have HB3 := Lib.hid (bthen (bthen HB2.out hb3) hb4)
    clear d1'' d1' hb2 hb3 hb4 hs3
    go_wp2
    go_ret
    exact ⟨by rw [ET.out]; rfl, HB3.out⟩
set_option maxRecDepth 100000 in
theorem impl_hasFlag_7 (ns : List Nat) (v : Value) (w : World) (h : Sl cI w v (li ns)) (hr : RelN ns) :
    Calls Tryz.prog 118 #[.agg #[.int .i64 ns.length, v], .int .i64 7] w fun e w' => e = .returned (.bool (acy ns)) ∧ Below w.heap.size w w' := by
  obtain ⟨A, c, rfl⟩ := h.opn
  have h8 := hr.1
  have EL := Lib.hid (li_length ns)
  rw [EL.out] at h ⊢
  have hb0 := below_alloc' w (.cells #[.int .i64 ns.length, .slice A ns.length c] 68)
  have hk0 := Blk.new w 68 #[.int .i64 ns.length, .slice A ns.length c]
  have hkl := hk0.lt
  have HK := Lib.hid hk0
  have HS := Lib.hid (h.below hb0)
  have HB := Lib.hid hb0
  have HN := Lib.hid hr
  obtain ⟨cs, hcs⟩ : ∃ cs, cs = clo ns ns.length := ⟨_, rfl⟩
  have EC : Hid (cs.length = ns.length) := Lib.hid (by rw [hcs, clo_length])
  have HC : Hid (∀ i, cs.getD i 0 < 256) := Lib.hid (fun i => Nat.lt_of_lt_of_le (getD_lt (by rw [hcs]; exact clo_lt hr.2 _) i) (two_pow_256 h8))
  have HT := Lib.hid (fun W (hW : Sl cI W (.slice A ns.length c) (li ns)) => hcs ▸ impl_transitive _ ns W hW hr)
  have HE := Lib.hid (fun W vB (hW : Sl cI W vB (li cs)) (hW2 : Sl cI W (.slice A ns.length c) (li ns)) => slices_Equal_int64 _ _ _ _ W hW hW2 (by rw [li_length, EC.out]; omega) (by rw [li_length, li_length, EC.out]))
  have ET : Hid (trv ns = decide (li cs = li ns)) := Lib.hid (by rw [li_eq_iff, trv_clo, hcs])
  have EA : Hid (acy ns = (List.range ns.length).all fun x => !(cs.getD x 0).testBit x) := Lib.hid (by rw [hcs]; rfl)
  clear h hb0 hk0 hr hcs
  go_enter Tryz.func118, Tryz.ntmps118
  go_wp2_with fail
  refine (impl_inverse _ ns _ HS.out HN.out).mono ?_
  rintro e w1 ⟨A1, m1, c1, rfl, hb⟩
  have HS1 := Lib.hid (HS.out.below hb)
  have HK1 := Lib.hid (HK.out.below hb hkl)
  have HB1 := Lib.hid (HB.out.trans (hb.mono HB.out.size))
  clear hb
  go_upto_region 18 with fail
  have hb2 := below_alloc' w1 (.cells #[.slice A1 m1 c1] 22)
  have HS2 := Lib.hid (HS1.out.below hb2)
  have hk2 := HK1.out.below hb2 HK1.out.lt
  have HK2 := Lib.hid hk2
  have HB2 := Lib.hid (bthen HB1.out hb2)
  clear hb2 HS1 HK1 HB1
  generalize w1.alloc (.cells #[.slice A1 m1 c1] 22) = W at *
  have d0 : W.cell? ⟨w.heap.size, 0, none⟩ = some (.int .i64 ns.length) := hk2.cell 0
  have d1 : W.cell? ⟨w.heap.size, 1, none⟩ = some (.slice A ns.length c) := hk2.cell 1
  have hlt := hk2.lt
  clear hk2
  go_wp2_with fail
  refine (HT.out _ HS2.out).mono ?_
  rintro e w2 ⟨u, rfl, ho, hb⟩
  obtain ⟨B2, c2, rfl⟩ := ho.opn
  have HB3 := Lib.hid (bthen HB2.out hb)
  have hk3 := HK2.out.below hb hlt
  have hos := ho.sl
  have hb5 := below_alloc' w2 (.cells #[.slice B2 (li cs).length c2] 22)
  have hkn := Blk.new w2 22 #[.slice B2 (li cs).length c2]
  have hknl := hkn.lt
  have HW := Lib.hid (impl_everyWorld ns.length (.slice A ns.length c) A ns.length c rfl 157 #[.pointer (some ⟨w2.heap.size, 0, none⟩)] (fun x => !(cs.getD x 0).testBit x) (w2.alloc (.cells #[.slice B2 (li cs).length c2] 22)) h8 en_hasFlag_6 (fun w' hw' i hi => by
    rw [show (#[Value.int .i64 (i : Int)] ++ #[Value.pointer (some ⟨w2.heap.size, 0, none⟩)] : Array Value) = #[.int .i64 i, .pointer (some ⟨w2.heap.size, 0, none⟩)] from rfl]
    exact impl_hasFlag_6 i w2.heap.size B2 (li cs).length c2 cs w' ((hkn.below hw' hknl).cell 0) ((hos.below hb5).below hw') (by rw [EC.out]; exact hi) (by rw [EC.out]; exact h8) (HC.out i)))
  have HB5 := Lib.hid (bthen HB3.out hb5)
  have hk5 := hk3.below hb5 hk3.lt
  have k1 := hk5.cell
  have k2 := hk5.lt
  clear ho hos hb hb5 hkn hk3 hk5 d0 d1
  go_wp2_with fail
  refine HW.out.mono ?_
  rintro e w4 ⟨rfl, hb⟩
  have HB6 := Lib.hid (bthen HB5.out hb)
  clear hb k1
  go_wp2
  go_ret
  exact ⟨by rw [EA.out]; rfl, HB6.out⟩
end Go.Proofs.YtkdldfomdbgcaaaGreat

/- Contracts of chapters 1 and 5: the transitive closure, of the program and of the reference; bits and images. -/
import Derived.Test.YtkdldfomdbgcaaaGreatFC
import Derived.StillTailTactics
namespace Go.Proofs.YtkdldfomdbgcaaaGreat
open Go.RowKit
set_option linter.unusedVariables false
set_option linter.unusedSimpArgs false
set_option maxRecDepth 100000 in
theorem impl_transitive (v : Value) (ns : List Nat) (w : World) (h : Sl cI w v (li ns)) (hr : RelN ns) :
    Calls Tryz.prog 152 #[v] w fun e w' => ∃ u, e = .returned u ∧ Ow cI 2 w.heap.size w' u (li (clo ns ns.length)) ∧ Below w.heap.size w w' := by
  have HN := Lib.hid hr
  have H0 := Lib.hid h
  have h8 := hr.1
  have EL := Lib.hid (li_length ns)
  clear h hr
  go_enter Tryz.func152, Tryz.ntmps152
  go_wp2_with fail
  refine (slices_Clone_int64 v (li ns) _ H0.out (by rw [EL.out]; omega)).mono ?_
  rintro e w1 ⟨u, rfl, ho, hb⟩
  obtain ⟨A, c, rfl⟩ := ho.opn
  rw [EL.out] at ho ⊢
  have HO := Lib.hid ho
  have HB := Lib.hid hb
  clear ho hb H0 EL
  go_wp2
  go_loopw [10] (fun k wr => ∃ j : Nat, j ≤ ns.length ∧ k = .int .i64 j ∧ Ow cI 2 w.heap.size wr (.slice A ns.length c) (li (clo ns j)) ∧ Below w.heap.size w wr) (fun k _ => ns.length - (intOf k).toNat)
  case atStart => exact ⟨0, Nat.zero_le _, rfl, HO.out, HB.out⟩
  case round =>
    obtain ⟨k, hk, rfl, ho, hb⟩ := hrel
    have HOr := Lib.hid ho
    have HBr := Lib.hid hb
    clear ho hb HO HB
    by_cases hlt : k < ns.length
    · have HC : Hid (clo ns (k + 1) = cin (clo ns k) k ns.length) := Lib.hid rfl
      have HLT := Lib.hid (clo_lt HN.out.2 k)
      have HLE := Lib.hid (clo_length ns k)
      obtain ⟨o, ho⟩ : ∃ o, clo ns k = o := ⟨_, rfl⟩
      rw [ho] at HOr HC HLT HLE
      clear ho
      go_wp2
      go_loopw [15] (fun i wq => ∃ j : Nat, j ≤ ns.length ∧ i = .int .i64 j ∧ Ow cI 2 w.heap.size wq (.slice A ns.length c) (li (cin o k j)) ∧ Below w.heap.size w wq) (fun i _ => ns.length - (intOf i).toNat)
      case atStart => exact ⟨0, Nat.zero_le _, rfl, HOr.out, HBr.out⟩
      case round =>
        obtain ⟨i, hi, rfl, ho, hb⟩ := hrel
        have HC2 : Hid (cin o k (i + 1) = cst (cin o k i) k i) := Lib.hid rfl
        have HL2 := Lib.hid ((cin_length o k i).trans HLE.out)
        have HB2 := Lib.hid (cin_lt HLT.out k i)
        have HB1 := Lib.hid hb
        clear hb HBr HOr
        by_cases hlt2 : i < ns.length
        · obtain ⟨p, hp⟩ : ∃ p, cin o k i = p := ⟨_, rfl⟩
          rw [hp] at HC2 HL2 HB2 ho
          clear hp
          obtain ⟨g, c', hg, hg1, -, -, -⟩ := ho.form (by rw [li_length, HL2.out]; omega)
          injection hg with hA hn hc
          subst hA
          subst hc
          clear hn
          obtain ⟨ci, -, -, -⟩ := ho.at1 rfl (j := i) (by rw [li_length, HL2.out]; omega) rfl
          obtain ⟨ck, -, -, -⟩ := ho.at1 rfl (j := k) (by rw [li_length, HL2.out]; omega) rfl
          rw [li_get] at ci ck
          have hod := ho.below (Below.refl _ _).drew
          obtain ⟨ci4, fi, -, -⟩ := hod.at1 rfl (j := i) (by rw [li_length, HL2.out]; omega) rfl
          rw [li_get] at ci4
          have hset := Lib.hid ((hod.set1 (j := i) (x := ((p.getD i 0 ||| p.getD k 0 : Nat) : Int)) (u := .int .i64 (p.getD i 0 ||| p.getD k 0 : Nat)) rfl rfl (by rw [li_length, HL2.out]; omega)))
          rw [li_set] at hset
          have hbs := Lib.hid ((HB1.out.drew).setCell hg1 (p := ⟨g, i, none⟩) (.int .i64 (p.getD i 0 ||| p.getD k 0 : Nat)))
          have HP := Lib.hid ho
          have hx := Nat.lt_of_lt_of_le (getD_lt HB2.out i) (two_pow_256 h8)
          have hy := Nat.lt_of_lt_of_le (getD_lt HB2.out k) (two_pow_256 h8)
          have HE : Hid (cin o k (i + 1) = if (p.getD i 0).testBit k then p.set i (p.getD i 0 ||| p.getD k 0) else p) := Lib.hid HC2.out
          clear ho hod HC2
          generalize p.getD i 0 = x at *
          generalize p.getD k 0 = y at *
          go_wp2_with fail
          refine (impl_has x k _ (by omega) (by omega)).mono ?_
          rintro e w3 ⟨rfl, rfl⟩
          cases ht : x.testBit k
          · rw [if_neg (by rw [ht]; decide)] at HE
            clear ht hset hbs
            go_wp2
            go_roundw
            case rel => exact ⟨i + 1, by omega, by go_num, by rw [HE.out]; exact HP.out, HB1.out⟩
            case measure => simp [intOf]; omega
          · rw [if_pos ht] at HE
            have e2 := i64_or_nat x y (by omega) (by omega)
            clear ht
            go_wp2
            go_still_tail 10, (by kernel_rfl)
            change wpList _ _ _ _ _ (World.drew _)
            clear ci ck
            generalize World.drew _ = w4 at *
            go_wp2
            go_roundw
            case rel => exact ⟨i + 1, by omega, by go_num, by rw [HE.out]; exact hset.out, hbs.out⟩
            case measure => simp [intOf]; omega
        · obtain rfl : i = ns.length := by omega
          rw [← HC.out] at ho
          have HP := Lib.hid ho
          clear ho
          go_wp2
          go_roundw
          case rel => exact ⟨k + 1, by omega, by go_num, HP.out, HB1.out⟩
          case measure => simp [intOf]; omega
    · obtain rfl : k = ns.length := by omega
      go_wp2
      go_ret
      exact ⟨_, rfl, HOr.out, HBr.out⟩
theorem spec_l01Bit (m i : Nat) (w : World) (hm : m < 9223372036854775808) (hi : i ≤ 63) :
    Calls Tryz.prog 107 #[.int .i64 m, .int .i64 i] w fun e w' => e = .returned (.bool (m.testBit i)) ∧ w = w' := by
  have E := Lib.hid (testBit_form m i hm)
  go_enter Tryz.func107, Tryz.ntmps107
  go_wp2
  go_ret
  exact ⟨by rw [← E.out]; rfl, rfl⟩
theorem spec_l01Image (v : Value) (ns : List Nat) (m : Nat) (w : World) (h : Sl cI w v (li ns)) (hr : RelN ns) (hm : m < 256) :
    Calls Tryz.prog 108 #[v, .int .i64 m] w fun e w' => e = .returned (.int .i64 (img ns m : Nat)) ∧ w = w' := by
  obtain ⟨A, c, rfl⟩ := h.opn
  have hlen := li_length ns
  have h8 := hr.1
  have HX := Lib.hid (fun i => Nat.lt_of_lt_of_le (getD_lt hr.2 i) (two_pow_256 h8))
  have HI := Lib.hid (fun i => Nat.lt_of_lt_of_le (imgTo_lt hr.2 m i) (two_pow_256 h8))
  have HL := Lib.hid hlen
  rw [hlen] at h ⊢
  clear hr hlen
  go_enter Tryz.func108, Tryz.ntmps108
  go_wp2
  go_loop [5, 6] (fun t i => ∃ j : Nat, j ≤ ns.length ∧ i = .int .i64 j ∧ t = .int .i64 (imgTo ns m j : Nat)) (fun _ i => ns.length - (intOf i).toNat)
  case atStart => exact ⟨0, Nat.zero_le _, rfl, rfl⟩
  case round =>
    obtain ⟨j, hj, rfl, rfl⟩ := hrel
    by_cases hlt : j < ns.length
    · have hlt' : j < (li ns).length := by rw [HL.out]; exact hlt
      obtain ⟨b, o, rfl, hbl, hc0⟩ := h.atI hlt'
      rw [li_get] at hc0
      have hx := HX.out j
      have hy := HI.out j
      have HS : Hid (imgTo ns m (j + 1) = imgTo ns m j ||| if m.testBit j then ns.getD j 0 else 0) := Lib.hid rfl
      generalize imgTo ns m j = y at *
      generalize ns.getD j 0 = x at *
      have e2 := i64_or_nat y x (by omega) (by omega)
      go_wp2_with fail
      refine (spec_l01Bit m j _ (by omega) (by omega)).mono ?_
      rintro e w1 ⟨rfl, rfl⟩
      cases ht : m.testBit j
      · rw [if_neg (by rw [ht]; decide), Nat.or_zero] at HS
        clear ht
        go_wp2
        go_round
        case rel => exact ⟨j + 1, by omega, by go_num, by rw [HS.out]⟩
        case measure => simp [intOf]; omega
      · rw [if_pos ht] at HS
        clear ht
        go_wp2
        go_round
        case rel => exact ⟨j + 1, by omega, by go_num, by rw [HS.out]⟩
        case measure => simp [intOf]; omega
    · obtain rfl : j = ns.length := by omega
      go_wp2
      go_ret
      exact ⟨rfl, rfl⟩
set_option maxRecDepth 100000 in
theorem spec_l01Closure (v : Value) (ns : List Nat) (w : World) (h : Sl cI w v (li ns)) (hr : RelN ns) :
    Calls Tryz.prog 109 #[v] w fun e w' => ∃ u, e = .returned u ∧ Ow cI 2 w.heap.size w' u (li (clo ns ns.length)) ∧ Below w.heap.size w w' := by
  have HN := Lib.hid hr
  have H0 := Lib.hid h
  have h8 := hr.1
  have EL := Lib.hid (li_length ns)
  clear h hr
  go_enter Tryz.func109, Tryz.ntmps109
  go_wp2_with fail
  refine (spec_l01Own v (li ns) _ H0.out (by rw [EL.out]; omega)).mono ?_
  rintro e w1 ⟨u, rfl, ho, hb⟩
  obtain ⟨A, c, rfl⟩ := ho.opn
  rw [EL.out] at ho ⊢
  have HO := Lib.hid ho
  have HB := Lib.hid hb
  clear ho hb H0 EL
  go_wp2
  go_loopw [4] (fun k wr => ∃ j : Nat, j ≤ ns.length ∧ k = .int .i64 j ∧ Ow cI 2 w.heap.size wr (.slice A ns.length c) (li (clo ns j)) ∧ Below w.heap.size w wr) (fun k _ => ns.length - (intOf k).toNat)
  case atStart => exact ⟨0, Nat.zero_le _, rfl, HO.out, HB.out⟩
  case round =>
    obtain ⟨k, hk, rfl, ho, hb⟩ := hrel
    have HOr := Lib.hid ho
    have HBr := Lib.hid hb
    clear ho hb HO HB
    by_cases hlt : k < ns.length
    · have HC : Hid (clo ns (k + 1) = cin (clo ns k) k ns.length) := Lib.hid rfl
      have HLT := Lib.hid (clo_lt HN.out.2 k)
      have HLE := Lib.hid (clo_length ns k)
      obtain ⟨o, ho⟩ : ∃ o, clo ns k = o := ⟨_, rfl⟩
      rw [ho] at HOr HC HLT HLE
      clear ho
      go_wp2
      go_loopw [5] (fun i wq => ∃ j : Nat, j ≤ ns.length ∧ i = .int .i64 j ∧ Ow cI 2 w.heap.size wq (.slice A ns.length c) (li (cin o k j)) ∧ Below w.heap.size w wq) (fun i _ => ns.length - (intOf i).toNat)
      case atStart => exact ⟨0, Nat.zero_le _, rfl, HOr.out, HBr.out⟩
      case round =>
        obtain ⟨i, hi, rfl, ho, hb⟩ := hrel
        have HC2 : Hid (cin o k (i + 1) = cst (cin o k i) k i) := Lib.hid rfl
        have HL2 := Lib.hid ((cin_length o k i).trans HLE.out)
        have HB2 := Lib.hid (cin_lt HLT.out k i)
        have HB1 := Lib.hid hb
        clear hb HBr HOr
        by_cases hlt2 : i < ns.length
        · obtain ⟨p, hp⟩ : ∃ p, cin o k i = p := ⟨_, rfl⟩
          rw [hp] at HC2 HL2 HB2 ho
          clear hp
          obtain ⟨g, c', hg, hg1, -, -, -⟩ := ho.form (by rw [li_length, HL2.out]; omega)
          injection hg with hA hn hc
          subst hA
          subst hc
          clear hn
          obtain ⟨ci, -, -, -⟩ := ho.at1 rfl (j := i) (by rw [li_length, HL2.out]; omega) rfl
          obtain ⟨ck, -, -, -⟩ := ho.at1 rfl (j := k) (by rw [li_length, HL2.out]; omega) rfl
          rw [li_get] at ci ck
          have hod := ho.below (Below.refl _ _).drew
          obtain ⟨ci4, fi, -, -⟩ := hod.at1 rfl (j := i) (by rw [li_length, HL2.out]; omega) rfl
          rw [li_get] at ci4
          have hset := Lib.hid ((hod.set1 (j := i) (x := ((p.getD i 0 ||| p.getD k 0 : Nat) : Int)) (u := .int .i64 (p.getD i 0 ||| p.getD k 0 : Nat)) rfl rfl (by rw [li_length, HL2.out]; omega)))
          rw [li_set] at hset
          have hbs := Lib.hid ((HB1.out.drew).setCell hg1 (p := ⟨g, i, none⟩) (.int .i64 (p.getD i 0 ||| p.getD k 0 : Nat)))
          have HP := Lib.hid ho
          have hx := Nat.lt_of_lt_of_le (getD_lt HB2.out i) (two_pow_256 h8)
          have hy := Nat.lt_of_lt_of_le (getD_lt HB2.out k) (two_pow_256 h8)
          have HE : Hid (cin o k (i + 1) = if (p.getD i 0).testBit k then p.set i (p.getD i 0 ||| p.getD k 0) else p) := Lib.hid HC2.out
          clear ho hod HC2
          generalize p.getD i 0 = x at *
          generalize p.getD k 0 = y at *
          go_wp2_with fail
          refine (spec_l01Bit x k _ (by omega) (by omega)).mono ?_
          rintro e w3 ⟨rfl, rfl⟩
          cases ht : x.testBit k
          · rw [if_neg (by rw [ht]; decide)] at HE
            clear ht hset hbs
            go_wp2
            go_roundw
            case rel => exact ⟨i + 1, by omega, by go_num, by rw [HE.out]; exact HP.out, HB1.out⟩
            case measure => simp [intOf]; omega
          · rw [if_pos ht] at HE
            have e2 := i64_or_nat x y (by omega) (by omega)
            clear ht
            go_wp2
            go_still_tail 12, (by kernel_rfl)
            change wpList _ _ _ _ _ (World.drew _)
            clear ci ck
            generalize World.drew _ = w4 at *
            go_wp2
            go_roundw
            case rel => exact ⟨i + 1, by omega, by go_num, by rw [HE.out]; exact hset.out, hbs.out⟩
            case measure => simp [intOf]; omega
        · obtain rfl : i = ns.length := by omega
          rw [← HC.out] at ho
          have HP := Lib.hid ho
          clear ho
          go_wp2
          go_roundw
          case rel => exact ⟨k + 1, by omega, by go_num, HP.out, HB1.out⟩
          case measure => simp [intOf]; omega
    · obtain rfl : k = ns.length := by omega
      go_wp2
      go_ret
      exact ⟨_, rfl, HOr.out, HBr.out⟩
end Go.Proofs.YtkdldfomdbgcaaaGreat

/- Contracts of chapter 13: the schemes of a system. Written by gen13B.py. -/
import Derived.Test.YtcikenffeekkeaaGreatDoorY12
import Derived.Test.YtcikenffeekkeaaGreatDoorY13
namespace Go.Proofs.YtcikenffeekkeaaGreatDoor
open Go.RowKit
set_option linter.unusedVariables false
set_option linter.unusedSimpArgs false
/-- the numbers below one, as int64s -/
def rgI (n : Nat) : List Int := (List.range n).map fun i : Nat => (i : Int)
theorem rgI_len (n : Nat) : (rgI n).length = n := by simp [rgI]
theorem liR_succ (n : Nat) : rgI n ++ [(n : Int)] = rgI (n + 1) := by unfold rgI; rw [List.range_succ, List.map_append]; rfl
set_option maxRecDepth 100000 in
set_option maxHeartbeats 1000000 in
theorem impl_schemesOf (l : List UInt8) (w : World) :
    Calls Tryz.prog 40 #[.string ⟨⟨l⟩⟩] w fun e w' => ∃ r, e = .returned (.tuple #[r, .bool (sysS l).isSome]) ∧ Ow cI 2 w.heap.size w' r ((sysS l).getD []) ∧ Below w.heap.size w w' := by
  cases h0 : (l == [73, 110, 116]) with
  | true =>
    have HS : Hid (sysS l = some [0, 1, 2, 3, 4, 5, 6, 7, 8]) := Lib.hid (by simp only [beq_eq_false_iff_ne, beq_iff_eq] at *; subst l; rfl)
    have HB0 : Hid (Below w.heap.size w w) := Lib.hid (Below.refl _ _)
    have HM : Hid (Sl cI w (.slice none 0 0) ([] : List Int)) := Lib.hid Sl.nil
    go_enter Tryz.func40, Tryz.ntmps40
    go_wp2
    go_loopw [6, 38] (fun q i wr => ∃ j : Nat, j ≤ 9 ∧ i = .int .i64 (j : Int) ∧ Ow cI 2 w.heap.size wr q (rgI j) ∧ Below w.heap.size w wr) (fun _ i _ => 9 - (intOf i).toNat)
    case atStart => exact ⟨0, Nat.zero_le _, rfl, Ow.nil _ _, Below.refl _ _⟩
    case round =>
      obtain ⟨j, hj, rfl, ho, hb⟩ := hrel
      obtain ⟨Ao, co, rfl⟩ := ho.opn
      have hL : (rgI j).length = j := rgI_len j
      rw [hL] at ho ⊢
      have HL := Lib.hid hL
      have HO := Lib.hid ho
      have HB := Lib.hid hb
      have hz := hb.size
      clear hL ho hb
      by_cases hlt : j < 9
      · go_wp2_with (at_builtin; refine stopHere ?_)
        refine goHere ?_
        refine ap_one (K := cI) _ ty_int64 rfl _ _ rfl (B := w.heap.size) (v := .slice Ao j co) (xs := rgI j) rfl HO.out (j : Int) rfl rfl (by rw [HL.out]; omega) hz ?_
        intro v1 w1 ho1 hg1 hb1 hat1
        rw [liR_succ] at ho1
        have HO1 := Lib.hid ho1
        have HB1 := Lib.hid (HB.out.trans hb1)
        clear ho1 hg1 hb1 hat1
        go_wp2
        go_roundw
        case rel => exact ⟨j + 1, by omega, by go_num, HO1.out, HB1.out⟩
        case measure => simp [intOf]; omega
      · obtain rfl : j = 9 := by omega
        go_wp2_with (at_builtin; refine stopHere ?_)
        refine goHere ?_
        refine ap_sl (K := cI) _ ty_int64 rfl _ _ rfl rfl rfl (B := w.heap.size) (v := .slice Ao 9 co) (xs := rgI 9) (news := []) HO.out (HM.out.below HB.out) (by rw [HL.out]; simp) hz ?_
        intro v1 w1 ho1 hg1 hb1 hat1
        have HO1 := Lib.hid ho1
        have HB1 := Lib.hid (bthen HB0.out (HB.out.trans hb1))
        clear ho1 hg1 hb1 hat1
        obtain ⟨A9, c9, rfl⟩ := HO1.out.opn
        go_wp2
        go_ret2
        exact ⟨_, by rw [HS.out]; rfl, by rw [HS.out]; exact HO1.out.mono HB0.out.size, HB1.out⟩
  | false =>
  cases h1 : (l == [67, 76]) with
  | true =>
    have HS : Hid (sysS l = some [0, 1, 2, 3, 4, 5, 6, 7, 8, 9]) := Lib.hid (by simp only [beq_eq_false_iff_ne, beq_iff_eq] at *; subst l; rfl)
    have HB0 : Hid (Below w.heap.size w w) := Lib.hid (Below.refl _ _)
    have HM : Hid (Sl cI w (.slice none 0 0) ([] : List Int)) := Lib.hid Sl.nil
    go_enter Tryz.func40, Tryz.ntmps40
    go_wp2
    go_loopw [6, 38] (fun q i wr => ∃ j : Nat, j ≤ 10 ∧ i = .int .i64 (j : Int) ∧ Ow cI 2 w.heap.size wr q (rgI j) ∧ Below w.heap.size w wr) (fun _ i _ => 10 - (intOf i).toNat)
    case atStart => exact ⟨0, Nat.zero_le _, rfl, Ow.nil _ _, Below.refl _ _⟩
    case round =>
      obtain ⟨j, hj, rfl, ho, hb⟩ := hrel
      obtain ⟨Ao, co, rfl⟩ := ho.opn
      have hL : (rgI j).length = j := rgI_len j
      rw [hL] at ho ⊢
      have HL := Lib.hid hL
      have HO := Lib.hid ho
      have HB := Lib.hid hb
      have hz := hb.size
      clear hL ho hb
      by_cases hlt : j < 10
      · go_wp2_with (at_builtin; refine stopHere ?_)
        refine goHere ?_
        refine ap_one (K := cI) _ ty_int64 rfl _ _ rfl (B := w.heap.size) (v := .slice Ao j co) (xs := rgI j) rfl HO.out (j : Int) rfl rfl (by rw [HL.out]; omega) hz ?_
        intro v1 w1 ho1 hg1 hb1 hat1
        rw [liR_succ] at ho1
        have HO1 := Lib.hid ho1
        have HB1 := Lib.hid (HB.out.trans hb1)
        clear ho1 hg1 hb1 hat1
        go_wp2
        go_roundw
        case rel => exact ⟨j + 1, by omega, by go_num, HO1.out, HB1.out⟩
        case measure => simp [intOf]; omega
      · obtain rfl : j = 10 := by omega
        go_wp2_with (at_builtin; refine stopHere ?_)
        refine goHere ?_
        refine ap_sl (K := cI) _ ty_int64 rfl _ _ rfl rfl rfl (B := w.heap.size) (v := .slice Ao 10 co) (xs := rgI 10) (news := []) HO.out (HM.out.below HB.out) (by rw [HL.out]; simp) hz ?_
        intro v1 w1 ho1 hg1 hb1 hat1
        have HO1 := Lib.hid ho1
        have HB1 := Lib.hid (bthen HB0.out (HB.out.trans hb1))
        clear ho1 hg1 hb1 hat1
        obtain ⟨A9, c9, rfl⟩ := HO1.out.opn
        go_wp2
        go_ret2
        exact ⟨_, by rw [HS.out]; rfl, by rw [HS.out]; exact HO1.out.mono HB0.out.size, HB1.out⟩
  | false =>
  cases h2 : (l == [75]) with
  | true =>
    have HS : Hid (sysS l = some [0, 1, 2, 3, 4, 5, 6, 7, 8, 9, 10, 11, 12]) := Lib.hid (by simp only [beq_eq_false_iff_ne, beq_iff_eq] at *; subst l; rfl)
    have HB0 : Hid (Below w.heap.size w w) := Lib.hid (Below.refl _ _)
    have HM : Hid (Sl cI w (.slice none 0 0) ([] : List Int)) := Lib.hid Sl.nil
    go_enter Tryz.func40, Tryz.ntmps40
    go_wp2
    go_loopw [6, 38] (fun q i wr => ∃ j : Nat, j ≤ 13 ∧ i = .int .i64 (j : Int) ∧ Ow cI 2 w.heap.size wr q (rgI j) ∧ Below w.heap.size w wr) (fun _ i _ => 13 - (intOf i).toNat)
    case atStart => exact ⟨0, Nat.zero_le _, rfl, Ow.nil _ _, Below.refl _ _⟩
    case round =>
      obtain ⟨j, hj, rfl, ho, hb⟩ := hrel
      obtain ⟨Ao, co, rfl⟩ := ho.opn
      have hL : (rgI j).length = j := rgI_len j
      rw [hL] at ho ⊢
      have HL := Lib.hid hL
      have HO := Lib.hid ho
      have HB := Lib.hid hb
      have hz := hb.size
      clear hL ho hb
      by_cases hlt : j < 13
      · go_wp2_with (at_builtin; refine stopHere ?_)
        refine goHere ?_
        refine ap_one (K := cI) _ ty_int64 rfl _ _ rfl (B := w.heap.size) (v := .slice Ao j co) (xs := rgI j) rfl HO.out (j : Int) rfl rfl (by rw [HL.out]; omega) hz ?_
        intro v1 w1 ho1 hg1 hb1 hat1
        rw [liR_succ] at ho1
        have HO1 := Lib.hid ho1
        have HB1 := Lib.hid (HB.out.trans hb1)
        clear ho1 hg1 hb1 hat1
        go_wp2
        go_roundw
        case rel => exact ⟨j + 1, by omega, by go_num, HO1.out, HB1.out⟩
        case measure => simp [intOf]; omega
      · obtain rfl : j = 13 := by omega
        go_wp2_with (at_builtin; refine stopHere ?_)
        refine goHere ?_
        refine ap_sl (K := cI) _ ty_int64 rfl _ _ rfl rfl rfl (B := w.heap.size) (v := .slice Ao 13 co) (xs := rgI 13) (news := []) HO.out (HM.out.below HB.out) (by rw [HL.out]; simp) hz ?_
        intro v1 w1 ho1 hg1 hb1 hat1
        have HO1 := Lib.hid ho1
        have HB1 := Lib.hid (bthen HB0.out (HB.out.trans hb1))
        clear ho1 hg1 hb1 hat1
        obtain ⟨A9, c9, rfl⟩ := HO1.out.opn
        go_wp2
        go_ret2
        exact ⟨_, by rw [HS.out]; rfl, by rw [HS.out]; exact HO1.out.mono HB0.out.size, HB1.out⟩
  | false =>
  cases h3 : (l == [68]) with
  | true =>
    have HS : Hid (sysS l = some [0, 1, 2, 3, 4, 5, 6, 7, 8, 9, 10, 11, 12, 17]) := Lib.hid (by simp only [beq_eq_false_iff_ne, beq_iff_eq] at *; subst l; rfl)
    have HB0 : Hid (Below w.heap.size w (w.alloc (.cells #[.int .i64 17] 2))) := Lib.hid (below_alloc' _ _)
    have HM : Hid (Sl cI (w.alloc (.cells #[.int .i64 17] 2)) (.slice (some ⟨w.heap.size, 0, none⟩) 1 1) [(17 : Int)]) := Lib.hid ((Ow.lit (K := cI) (w := w) (e := 2) (B := w.heap.size) (cs := #[.int .i64 17]) (n := 1) [(17 : Int)] rfl rfl (Nat.le_refl _)).sl)
    go_enter Tryz.func40, Tryz.ntmps40
    go_wp2
    generalize hw0 : World.alloc w _ = w0 at *
    clear hw0
    go_loopw [6, 38] (fun q i wr => ∃ j : Nat, j ≤ 13 ∧ i = .int .i64 (j : Int) ∧ Ow cI 2 w0.heap.size wr q (rgI j) ∧ Below w0.heap.size w0 wr) (fun _ i _ => 13 - (intOf i).toNat)
    case atStart => exact ⟨0, Nat.zero_le _, rfl, Ow.nil _ _, Below.refl _ _⟩
    case round =>
      obtain ⟨j, hj, rfl, ho, hb⟩ := hrel
      obtain ⟨Ao, co, rfl⟩ := ho.opn
      have hL : (rgI j).length = j := rgI_len j
      rw [hL] at ho ⊢
      have HL := Lib.hid hL
      have HO := Lib.hid ho
      have HB := Lib.hid hb
      have hz := hb.size
      clear hL ho hb
      by_cases hlt : j < 13
      · go_wp2_with (at_builtin; refine stopHere ?_)
        refine goHere ?_
        refine ap_one (K := cI) _ ty_int64 rfl _ _ rfl (B := w0.heap.size) (v := .slice Ao j co) (xs := rgI j) rfl HO.out (j : Int) rfl rfl (by rw [HL.out]; omega) hz ?_
        intro v1 w1 ho1 hg1 hb1 hat1
        rw [liR_succ] at ho1
        have HO1 := Lib.hid ho1
        have HB1 := Lib.hid (HB.out.trans hb1)
        clear ho1 hg1 hb1 hat1
        go_wp2
        go_roundw
        case rel => exact ⟨j + 1, by omega, by go_num, HO1.out, HB1.out⟩
        case measure => simp [intOf]; omega
      · obtain rfl : j = 13 := by omega
        go_wp2_with (at_builtin; refine stopHere ?_)
        refine goHere ?_
        refine ap_sl (K := cI) _ ty_int64 rfl _ _ rfl rfl rfl (B := w0.heap.size) (v := .slice Ao 13 co) (xs := rgI 13) (news := [(17 : Int)]) HO.out (HM.out.below HB.out) (by rw [HL.out]; simp) hz ?_
        intro v1 w1 ho1 hg1 hb1 hat1
        have HO1 := Lib.hid ho1
        have HB1 := Lib.hid (bthen HB0.out (HB.out.trans hb1))
        clear ho1 hg1 hb1 hat1
        obtain ⟨A9, c9, rfl⟩ := HO1.out.opn
        go_wp2
        go_ret2
        exact ⟨_, by rw [HS.out]; rfl, by rw [HS.out]; exact HO1.out.mono HB0.out.size, HB1.out⟩
  | false =>
  cases h4 : (l == [84]) with
  | true =>
    have HS : Hid (sysS l = some [0, 1, 2, 3, 4, 5, 6, 7, 8, 9, 10, 11, 12, 13]) := Lib.hid (by simp only [beq_eq_false_iff_ne, beq_iff_eq] at *; subst l; rfl)
    have HB0 : Hid (Below w.heap.size w (w.alloc (.cells #[.int .i64 13] 2))) := Lib.hid (below_alloc' _ _)
    have HM : Hid (Sl cI (w.alloc (.cells #[.int .i64 13] 2)) (.slice (some ⟨w.heap.size, 0, none⟩) 1 1) [(13 : Int)]) := Lib.hid ((Ow.lit (K := cI) (w := w) (e := 2) (B := w.heap.size) (cs := #[.int .i64 13]) (n := 1) [(13 : Int)] rfl rfl (Nat.le_refl _)).sl)
    go_enter Tryz.func40, Tryz.ntmps40
    go_wp2
    generalize hw0 : World.alloc w _ = w0 at *
    clear hw0
    go_loopw [6, 38] (fun q i wr => ∃ j : Nat, j ≤ 13 ∧ i = .int .i64 (j : Int) ∧ Ow cI 2 w0.heap.size wr q (rgI j) ∧ Below w0.heap.size w0 wr) (fun _ i _ => 13 - (intOf i).toNat)
    case atStart => exact ⟨0, Nat.zero_le _, rfl, Ow.nil _ _, Below.refl _ _⟩
    case round =>
      obtain ⟨j, hj, rfl, ho, hb⟩ := hrel
      obtain ⟨Ao, co, rfl⟩ := ho.opn
      have hL : (rgI j).length = j := rgI_len j
      rw [hL] at ho ⊢
      have HL := Lib.hid hL
      have HO := Lib.hid ho
      have HB := Lib.hid hb
      have hz := hb.size
      clear hL ho hb
      by_cases hlt : j < 13
      · go_wp2_with (at_builtin; refine stopHere ?_)
        refine goHere ?_
        refine ap_one (K := cI) _ ty_int64 rfl _ _ rfl (B := w0.heap.size) (v := .slice Ao j co) (xs := rgI j) rfl HO.out (j : Int) rfl rfl (by rw [HL.out]; omega) hz ?_
        intro v1 w1 ho1 hg1 hb1 hat1
        rw [liR_succ] at ho1
        have HO1 := Lib.hid ho1
        have HB1 := Lib.hid (HB.out.trans hb1)
        clear ho1 hg1 hb1 hat1
        go_wp2
        go_roundw
        case rel => exact ⟨j + 1, by omega, by go_num, HO1.out, HB1.out⟩
        case measure => simp [intOf]; omega
      · obtain rfl : j = 13 := by omega
        go_wp2_with (at_builtin; refine stopHere ?_)
        refine goHere ?_
        refine ap_sl (K := cI) _ ty_int64 rfl _ _ rfl rfl rfl (B := w0.heap.size) (v := .slice Ao 13 co) (xs := rgI 13) (news := [(13 : Int)]) HO.out (HM.out.below HB.out) (by rw [HL.out]; simp) hz ?_
        intro v1 w1 ho1 hg1 hb1 hat1
        have HO1 := Lib.hid ho1
        have HB1 := Lib.hid (bthen HB0.out (HB.out.trans hb1))
        clear ho1 hg1 hb1 hat1
        obtain ⟨A9, c9, rfl⟩ := HO1.out.opn
        go_wp2
        go_ret2
        exact ⟨_, by rw [HS.out]; rfl, by rw [HS.out]; exact HO1.out.mono HB0.out.size, HB1.out⟩
  | false =>
  cases h5 : (l == [75, 52]) with
  | true =>
    have HS : Hid (sysS l = some [0, 1, 2, 3, 4, 5, 6, 7, 8, 9, 10, 11, 12, 14]) := Lib.hid (by simp only [beq_eq_false_iff_ne, beq_iff_eq] at *; subst l; rfl)
    have HB0 : Hid (Below w.heap.size w (w.alloc (.cells #[.int .i64 14] 2))) := Lib.hid (below_alloc' _ _)
    have HM : Hid (Sl cI (w.alloc (.cells #[.int .i64 14] 2)) (.slice (some ⟨w.heap.size, 0, none⟩) 1 1) [(14 : Int)]) := Lib.hid ((Ow.lit (K := cI) (w := w) (e := 2) (B := w.heap.size) (cs := #[.int .i64 14]) (n := 1) [(14 : Int)] rfl rfl (Nat.le_refl _)).sl)
    go_enter Tryz.func40, Tryz.ntmps40
    go_wp2
    generalize hw0 : World.alloc w _ = w0 at *
    clear hw0
    go_loopw [6, 38] (fun q i wr => ∃ j : Nat, j ≤ 13 ∧ i = .int .i64 (j : Int) ∧ Ow cI 2 w0.heap.size wr q (rgI j) ∧ Below w0.heap.size w0 wr) (fun _ i _ => 13 - (intOf i).toNat)
    case atStart => exact ⟨0, Nat.zero_le _, rfl, Ow.nil _ _, Below.refl _ _⟩
    case round =>
      obtain ⟨j, hj, rfl, ho, hb⟩ := hrel
      obtain ⟨Ao, co, rfl⟩ := ho.opn
      have hL : (rgI j).length = j := rgI_len j
      rw [hL] at ho ⊢
      have HL := Lib.hid hL
      have HO := Lib.hid ho
      have HB := Lib.hid hb
      have hz := hb.size
      clear hL ho hb
      by_cases hlt : j < 13
      · go_wp2_with (at_builtin; refine stopHere ?_)
        refine goHere ?_
        refine ap_one (K := cI) _ ty_int64 rfl _ _ rfl (B := w0.heap.size) (v := .slice Ao j co) (xs := rgI j) rfl HO.out (j : Int) rfl rfl (by rw [HL.out]; omega) hz ?_
        intro v1 w1 ho1 hg1 hb1 hat1
        rw [liR_succ] at ho1
        have HO1 := Lib.hid ho1
        have HB1 := Lib.hid (HB.out.trans hb1)
        clear ho1 hg1 hb1 hat1
        go_wp2
        go_roundw
        case rel => exact ⟨j + 1, by omega, by go_num, HO1.out, HB1.out⟩
        case measure => simp [intOf]; omega
      · obtain rfl : j = 13 := by omega
        go_wp2_with (at_builtin; refine stopHere ?_)
        refine goHere ?_
        refine ap_sl (K := cI) _ ty_int64 rfl _ _ rfl rfl rfl (B := w0.heap.size) (v := .slice Ao 13 co) (xs := rgI 13) (news := [(14 : Int)]) HO.out (HM.out.below HB.out) (by rw [HL.out]; simp) hz ?_
        intro v1 w1 ho1 hg1 hb1 hat1
        have HO1 := Lib.hid ho1
        have HB1 := Lib.hid (bthen HB0.out (HB.out.trans hb1))
        clear ho1 hg1 hb1 hat1
        obtain ⟨A9, c9, rfl⟩ := HO1.out.opn
        go_wp2
        go_ret2
        exact ⟨_, by rw [HS.out]; rfl, by rw [HS.out]; exact HO1.out.mono HB0.out.size, HB1.out⟩
  | false =>
  cases h6 : (l == [83, 52]) with
  | true =>
    have HS : Hid (sysS l = some [0, 1, 2, 3, 4, 5, 6, 7, 8, 9, 10, 11, 12, 13, 14]) := Lib.hid (by simp only [beq_eq_false_iff_ne, beq_iff_eq] at *; subst l; rfl)
    have HB0 : Hid (Below w.heap.size w (w.alloc (.cells #[.int .i64 13, .int .i64 14] 2))) := Lib.hid (below_alloc' _ _)
    have HM : Hid (Sl cI (w.alloc (.cells #[.int .i64 13, .int .i64 14] 2)) (.slice (some ⟨w.heap.size, 0, none⟩) 2 2) [(13 : Int), (14 : Int)]) := Lib.hid ((Ow.lit (K := cI) (w := w) (e := 2) (B := w.heap.size) (cs := #[.int .i64 13, .int .i64 14]) (n := 2) [(13 : Int), (14 : Int)] rfl rfl (Nat.le_refl _)).sl)
    go_enter Tryz.func40, Tryz.ntmps40
    go_wp2
    generalize hw0 : World.alloc w _ = w0 at *
    clear hw0
    go_loopw [6, 38] (fun q i wr => ∃ j : Nat, j ≤ 13 ∧ i = .int .i64 (j : Int) ∧ Ow cI 2 w0.heap.size wr q (rgI j) ∧ Below w0.heap.size w0 wr) (fun _ i _ => 13 - (intOf i).toNat)
    case atStart => exact ⟨0, Nat.zero_le _, rfl, Ow.nil _ _, Below.refl _ _⟩
    case round =>
      obtain ⟨j, hj, rfl, ho, hb⟩ := hrel
      obtain ⟨Ao, co, rfl⟩ := ho.opn
      have hL : (rgI j).length = j := rgI_len j
      rw [hL] at ho ⊢
      have HL := Lib.hid hL
      have HO := Lib.hid ho
      have HB := Lib.hid hb
      have hz := hb.size
      clear hL ho hb
      by_cases hlt : j < 13
      · go_wp2_with (at_builtin; refine stopHere ?_)
        refine goHere ?_
        refine ap_one (K := cI) _ ty_int64 rfl _ _ rfl (B := w0.heap.size) (v := .slice Ao j co) (xs := rgI j) rfl HO.out (j : Int) rfl rfl (by rw [HL.out]; omega) hz ?_
        intro v1 w1 ho1 hg1 hb1 hat1
        rw [liR_succ] at ho1
        have HO1 := Lib.hid ho1
        have HB1 := Lib.hid (HB.out.trans hb1)
        clear ho1 hg1 hb1 hat1
        go_wp2
        go_roundw
        case rel => exact ⟨j + 1, by omega, by go_num, HO1.out, HB1.out⟩
        case measure => simp [intOf]; omega
      · obtain rfl : j = 13 := by omega
        go_wp2_with (at_builtin; refine stopHere ?_)
        refine goHere ?_
        refine ap_sl (K := cI) _ ty_int64 rfl _ _ rfl rfl rfl (B := w0.heap.size) (v := .slice Ao 13 co) (xs := rgI 13) (news := [(13 : Int), (14 : Int)]) HO.out (HM.out.below HB.out) (by rw [HL.out]; simp) hz ?_
        intro v1 w1 ho1 hg1 hb1 hat1
        have HO1 := Lib.hid ho1
        have HB1 := Lib.hid (bthen HB0.out (HB.out.trans hb1))
        clear ho1 hg1 hb1 hat1
        obtain ⟨A9, c9, rfl⟩ := HO1.out.opn
        go_wp2
        go_ret2
        exact ⟨_, by rw [HS.out]; rfl, by rw [HS.out]; exact HO1.out.mono HB0.out.size, HB1.out⟩
  | false =>
  cases h7 : (l == [83, 53]) with
  | true =>
    have HS : Hid (sysS l = some [0, 1, 2, 3, 4, 5, 6, 7, 8, 9, 10, 11, 12, 13, 15]) := Lib.hid (by simp only [beq_eq_false_iff_ne, beq_iff_eq] at *; subst l; rfl)
    have HB0 : Hid (Below w.heap.size w (w.alloc (.cells #[.int .i64 13, .int .i64 15] 2))) := Lib.hid (below_alloc' _ _)
    have HM : Hid (Sl cI (w.alloc (.cells #[.int .i64 13, .int .i64 15] 2)) (.slice (some ⟨w.heap.size, 0, none⟩) 2 2) [(13 : Int), (15 : Int)]) := Lib.hid ((Ow.lit (K := cI) (w := w) (e := 2) (B := w.heap.size) (cs := #[.int .i64 13, .int .i64 15]) (n := 2) [(13 : Int), (15 : Int)] rfl rfl (Nat.le_refl _)).sl)
    go_enter Tryz.func40, Tryz.ntmps40
    go_wp2
    generalize hw0 : World.alloc w _ = w0 at *
    clear hw0
    go_loopw [6, 38] (fun q i wr => ∃ j : Nat, j ≤ 13 ∧ i = .int .i64 (j : Int) ∧ Ow cI 2 w0.heap.size wr q (rgI j) ∧ Below w0.heap.size w0 wr) (fun _ i _ => 13 - (intOf i).toNat)
    case atStart => exact ⟨0, Nat.zero_le _, rfl, Ow.nil _ _, Below.refl _ _⟩
    case round =>
      obtain ⟨j, hj, rfl, ho, hb⟩ := hrel
      obtain ⟨Ao, co, rfl⟩ := ho.opn
      have hL : (rgI j).length = j := rgI_len j
      rw [hL] at ho ⊢
      have HL := Lib.hid hL
      have HO := Lib.hid ho
      have HB := Lib.hid hb
      have hz := hb.size
      clear hL ho hb
      by_cases hlt : j < 13
      · go_wp2_with (at_builtin; refine stopHere ?_)
        refine goHere ?_
        refine ap_one (K := cI) _ ty_int64 rfl _ _ rfl (B := w0.heap.size) (v := .slice Ao j co) (xs := rgI j) rfl HO.out (j : Int) rfl rfl (by rw [HL.out]; omega) hz ?_
        intro v1 w1 ho1 hg1 hb1 hat1
        rw [liR_succ] at ho1
        have HO1 := Lib.hid ho1
        have HB1 := Lib.hid (HB.out.trans hb1)
        clear ho1 hg1 hb1 hat1
        go_wp2
        go_roundw
        case rel => exact ⟨j + 1, by omega, by go_num, HO1.out, HB1.out⟩
        case measure => simp [intOf]; omega
      · obtain rfl : j = 13 := by omega
        go_wp2_with (at_builtin; refine stopHere ?_)
        refine goHere ?_
        refine ap_sl (K := cI) _ ty_int64 rfl _ _ rfl rfl rfl (B := w0.heap.size) (v := .slice Ao 13 co) (xs := rgI 13) (news := [(13 : Int), (15 : Int)]) HO.out (HM.out.below HB.out) (by rw [HL.out]; simp) hz ?_
        intro v1 w1 ho1 hg1 hb1 hat1
        have HO1 := Lib.hid ho1
        have HB1 := Lib.hid (bthen HB0.out (HB.out.trans hb1))
        clear ho1 hg1 hb1 hat1
        obtain ⟨A9, c9, rfl⟩ := HO1.out.opn
        go_wp2
        go_ret2
        exact ⟨_, by rw [HS.out]; rfl, by rw [HS.out]; exact HO1.out.mono HB0.out.size, HB1.out⟩
  | false =>
  cases h8 : (l == [75, 66]) with
  | true =>
    have HS : Hid (sysS l = some [0, 1, 2, 3, 4, 5, 6, 7, 8, 9, 10, 11, 12, 16]) := Lib.hid (by simp only [beq_eq_false_iff_ne, beq_iff_eq] at *; subst l; rfl)
    have HB0 : Hid (Below w.heap.size w (w.alloc (.cells #[.int .i64 16] 2))) := Lib.hid (below_alloc' _ _)
    have HM : Hid (Sl cI (w.alloc (.cells #[.int .i64 16] 2)) (.slice (some ⟨w.heap.size, 0, none⟩) 1 1) [(16 : Int)]) := Lib.hid ((Ow.lit (K := cI) (w := w) (e := 2) (B := w.heap.size) (cs := #[.int .i64 16]) (n := 1) [(16 : Int)] rfl rfl (Nat.le_refl _)).sl)
    go_enter Tryz.func40, Tryz.ntmps40
    go_wp2
    generalize hw0 : World.alloc w _ = w0 at *
    clear hw0
    go_loopw [6, 38] (fun q i wr => ∃ j : Nat, j ≤ 13 ∧ i = .int .i64 (j : Int) ∧ Ow cI 2 w0.heap.size wr q (rgI j) ∧ Below w0.heap.size w0 wr) (fun _ i _ => 13 - (intOf i).toNat)
    case atStart => exact ⟨0, Nat.zero_le _, rfl, Ow.nil _ _, Below.refl _ _⟩
    case round =>
      obtain ⟨j, hj, rfl, ho, hb⟩ := hrel
      obtain ⟨Ao, co, rfl⟩ := ho.opn
      have hL : (rgI j).length = j := rgI_len j
      rw [hL] at ho ⊢
      have HL := Lib.hid hL
      have HO := Lib.hid ho
      have HB := Lib.hid hb
      have hz := hb.size
      clear hL ho hb
      by_cases hlt : j < 13
      · go_wp2_with (at_builtin; refine stopHere ?_)
        refine goHere ?_
        refine ap_one (K := cI) _ ty_int64 rfl _ _ rfl (B := w0.heap.size) (v := .slice Ao j co) (xs := rgI j) rfl HO.out (j : Int) rfl rfl (by rw [HL.out]; omega) hz ?_
        intro v1 w1 ho1 hg1 hb1 hat1
        rw [liR_succ] at ho1
        have HO1 := Lib.hid ho1
        have HB1 := Lib.hid (HB.out.trans hb1)
        clear ho1 hg1 hb1 hat1
        go_wp2
        go_roundw
        case rel => exact ⟨j + 1, by omega, by go_num, HO1.out, HB1.out⟩
        case measure => simp [intOf]; omega
      · obtain rfl : j = 13 := by omega
        go_wp2_with (at_builtin; refine stopHere ?_)
        refine goHere ?_
        refine ap_sl (K := cI) _ ty_int64 rfl _ _ rfl rfl rfl (B := w0.heap.size) (v := .slice Ao 13 co) (xs := rgI 13) (news := [(16 : Int)]) HO.out (HM.out.below HB.out) (by rw [HL.out]; simp) hz ?_
        intro v1 w1 ho1 hg1 hb1 hat1
        have HO1 := Lib.hid ho1
        have HB1 := Lib.hid (bthen HB0.out (HB.out.trans hb1))
        clear ho1 hg1 hb1 hat1
        obtain ⟨A9, c9, rfl⟩ := HO1.out.opn
        go_wp2
        go_ret2
        exact ⟨_, by rw [HS.out]; rfl, by rw [HS.out]; exact HO1.out.mono HB0.out.size, HB1.out⟩
  | false =>
  cases h9 : (l == [71, 76]) with
  | true =>
    have HS : Hid (sysS l = some [0, 1, 2, 3, 4, 5, 6, 7, 8, 9, 10, 11, 12, 18]) := Lib.hid (by simp only [beq_eq_false_iff_ne, beq_iff_eq] at *; subst l; rfl)
    have HB0 : Hid (Below w.heap.size w (w.alloc (.cells #[.int .i64 18] 2))) := Lib.hid (below_alloc' _ _)
    have HM : Hid (Sl cI (w.alloc (.cells #[.int .i64 18] 2)) (.slice (some ⟨w.heap.size, 0, none⟩) 1 1) [(18 : Int)]) := Lib.hid ((Ow.lit (K := cI) (w := w) (e := 2) (B := w.heap.size) (cs := #[.int .i64 18]) (n := 1) [(18 : Int)] rfl rfl (Nat.le_refl _)).sl)
    go_enter Tryz.func40, Tryz.ntmps40
    go_wp2
    generalize hw0 : World.alloc w _ = w0 at *
    clear hw0
    go_loopw [6, 38] (fun q i wr => ∃ j : Nat, j ≤ 13 ∧ i = .int .i64 (j : Int) ∧ Ow cI 2 w0.heap.size wr q (rgI j) ∧ Below w0.heap.size w0 wr) (fun _ i _ => 13 - (intOf i).toNat)
    case atStart => exact ⟨0, Nat.zero_le _, rfl, Ow.nil _ _, Below.refl _ _⟩
    case round =>
      obtain ⟨j, hj, rfl, ho, hb⟩ := hrel
      obtain ⟨Ao, co, rfl⟩ := ho.opn
      have hL : (rgI j).length = j := rgI_len j
      rw [hL] at ho ⊢
      have HL := Lib.hid hL
      have HO := Lib.hid ho
      have HB := Lib.hid hb
      have hz := hb.size
      clear hL ho hb
      by_cases hlt : j < 13
      · go_wp2_with (at_builtin; refine stopHere ?_)
        refine goHere ?_
        refine ap_one (K := cI) _ ty_int64 rfl _ _ rfl (B := w0.heap.size) (v := .slice Ao j co) (xs := rgI j) rfl HO.out (j : Int) rfl rfl (by rw [HL.out]; omega) hz ?_
        intro v1 w1 ho1 hg1 hb1 hat1
        rw [liR_succ] at ho1
        have HO1 := Lib.hid ho1
        have HB1 := Lib.hid (HB.out.trans hb1)
        clear ho1 hg1 hb1 hat1
        go_wp2
        go_roundw
        case rel => exact ⟨j + 1, by omega, by go_num, HO1.out, HB1.out⟩
        case measure => simp [intOf]; omega
      · obtain rfl : j = 13 := by omega
        go_wp2_with (at_builtin; refine stopHere ?_)
        refine goHere ?_
        refine ap_sl (K := cI) _ ty_int64 rfl _ _ rfl rfl rfl (B := w0.heap.size) (v := .slice Ao 13 co) (xs := rgI 13) (news := [(18 : Int)]) HO.out (HM.out.below HB.out) (by rw [HL.out]; simp) hz ?_
        intro v1 w1 ho1 hg1 hb1 hat1
        have HO1 := Lib.hid ho1
        have HB1 := Lib.hid (bthen HB0.out (HB.out.trans hb1))
        clear ho1 hg1 hb1 hat1
        obtain ⟨A9, c9, rfl⟩ := HO1.out.opn
        go_wp2
        go_ret2
        exact ⟨_, by rw [HS.out]; rfl, by rw [HS.out]; exact HO1.out.mono HB0.out.size, HB1.out⟩
  | false =>
  have HS : Hid (sysS l = none) := Lib.hid (by unfold sysS; simp only [beq_eq_false_iff_ne] at *; simp [*])
  go_enter Tryz.func40, Tryz.ntmps40
  go_wp2
  go_ret2
  exact ⟨_, by rw [HS.out]; rfl, by rw [HS.out]; exact Ow.nil _ _, Below.refl _ _⟩
set_option maxRecDepth 100000 in
set_option maxHeartbeats 1000000 in
theorem spec_l13Schemes (l : List UInt8) (w : World) :
    Calls Tryz.prog 30 #[.string ⟨⟨l⟩⟩] w fun e w' => ∃ r, e = .returned r ∧ Ow cI 2 w.heap.size w' r ((sysS l).getD []) ∧ Below w.heap.size w w' := by
  cases h0 : (l == [73, 110, 116]) with
  | true =>
    have HS : Hid (sysS l = some [0, 1, 2, 3, 4, 5, 6, 7, 8]) := Lib.hid (by simp only [beq_eq_false_iff_ne, beq_iff_eq] at *; subst l; rfl)
    have HB0 : Hid (Below w.heap.size w ((w.alloc (.cells #[] 2)).alloc (.cells #[] 2))) := Lib.hid (bthen (below_alloc' _ _) (below_alloc' _ _))
    have HM : Hid (Sl cI ((w.alloc (.cells #[] 2)).alloc (.cells #[] 2)) (.slice (some ⟨w.heap.size, 0, none⟩) 0 0) ([] : List Int)) := Lib.hid (Sl.alloc (Ow.lit' (K := cI) (w := w) (e := 2) (B := w.heap.size) (cs := #[]) (n := 0) (g := w.heap.size) ([] : List Int) (by simp) rfl rfl (by simp)).sl _)
    have HN : Hid (Ow cI 2 (w.heap.size + 1) ((w.alloc (.cells #[] 2)).alloc (.cells #[] 2)) (.slice (some ⟨w.heap.size + 1, 0, none⟩) 0 0) (rgI 0)) := Lib.hid (Ow.lit' (K := cI) (w := (w.alloc (.cells #[] 2))) (e := 2) (B := w.heap.size + 1) (cs := #[]) (n := 0) (g := w.heap.size + 1) [] (by simp) rfl rfl (Nat.le_refl _))
    have HZ : Hid (w.heap.size + 1 ≤ ((w.alloc (.cells #[] 2)).alloc (.cells #[] 2)).heap.size) := Lib.hid (by simp)
    go_enter Tryz.func30, Tryz.ntmps30
    go_wp2
    generalize World.alloc _ _ = w0 at *
    go_loopw [5, 6] (fun q i wr => ∃ j : Nat, j ≤ 9 ∧ i = .int .i64 (j : Int) ∧ Ow cI 2 (w.heap.size + 1) wr q (rgI j) ∧ Below (w.heap.size + 1) w0 wr) (fun _ i _ => 9 - (intOf i).toNat)
    case atStart => exact ⟨0, Nat.zero_le _, rfl, HN.out, Below.refl _ _⟩
    case round =>
      obtain ⟨j, hj, rfl, ho, hb⟩ := hrel
      obtain ⟨Ao, co, rfl⟩ := ho.opn
      have hL : (rgI j).length = j := rgI_len j
      rw [hL] at ho ⊢
      have HL := Lib.hid hL
      have HO := Lib.hid ho
      have HB := Lib.hid hb
      have hz := Lib.hid (Nat.le_trans HZ.out hb.size)
      clear hL ho hb
      by_cases hlt : j < 9
      · go_wp2_with (at_builtin; refine stopHere ?_)
        refine goHere ?_
        refine ap_one (K := cI) _ ty_int64 rfl _ _ rfl (B := w.heap.size + 1) (v := .slice Ao j co) (xs := rgI j) rfl HO.out (j : Int) rfl rfl (by rw [HL.out]; omega) hz.out ?_
        intro v1 w1 ho1 hg1 hb1 hat1
        rw [liR_succ] at ho1
        have HO1 := Lib.hid ho1
        have HB1 := Lib.hid (HB.out.trans hb1)
        clear ho1 hg1 hb1 hat1
        go_wp2
        go_roundw
        case rel => exact ⟨j + 1, by omega, by go_num, HO1.out, HB1.out⟩
        case measure => simp [intOf]; omega
      · obtain rfl : j = 9 := by omega
        have hm1 : Sl cI wr (.slice (some ⟨w.heap.size, 0, none⟩) 0 0) ([] : List Int) := HM.out.keptAt HB.out.size fun p hp hv => HB.out.cell (by have e : some (w.heap.size) = some p.block := hv; injection e with e; omega)
        have HM1 := Lib.hid hm1
        clear hm1
        go_wp2_with (at_builtin; refine stopHere ?_)
        refine goHere ?_
        refine ap_sl (K := cI) _ ty_int64 rfl _ _ rfl rfl rfl (B := w.heap.size + 1) (v := .slice Ao 9 co) (xs := rgI 9) (news := ([] : List Int)) HO.out HM1.out (by rw [HL.out]; simp) hz.out ?_
        intro v1 w1 ho1 hg1 hb1 hat1
        have HO1 := Lib.hid ho1
        have HB1 := Lib.hid (HB0.out.trans ((HB.out.trans hb1).mono (by omega)))
        clear ho1 hg1 hb1 hat1
        obtain ⟨A9, c9, rfl⟩ := HO1.out.opn
        go_wp2
        go_ret
        exact ⟨_, rfl, by rw [HS.out]; exact HO1.out.mono (by omega), HB1.out⟩
  | false =>
  cases h1 : (l == [67, 76]) with
  | true =>
    have HS : Hid (sysS l = some [0, 1, 2, 3, 4, 5, 6, 7, 8, 9]) := Lib.hid (by simp only [beq_eq_false_iff_ne, beq_iff_eq] at *; subst l; rfl)
    have HB0 : Hid (Below w.heap.size w ((w.alloc (.cells #[] 2)).alloc (.cells #[] 2))) := Lib.hid (bthen (below_alloc' _ _) (below_alloc' _ _))
    have HM : Hid (Sl cI ((w.alloc (.cells #[] 2)).alloc (.cells #[] 2)) (.slice (some ⟨w.heap.size, 0, none⟩) 0 0) ([] : List Int)) := Lib.hid (Sl.alloc (Ow.lit' (K := cI) (w := w) (e := 2) (B := w.heap.size) (cs := #[]) (n := 0) (g := w.heap.size) ([] : List Int) (by simp) rfl rfl (by simp)).sl _)
    have HN : Hid (Ow cI 2 (w.heap.size + 1) ((w.alloc (.cells #[] 2)).alloc (.cells #[] 2)) (.slice (some ⟨w.heap.size + 1, 0, none⟩) 0 0) (rgI 0)) := Lib.hid (Ow.lit' (K := cI) (w := (w.alloc (.cells #[] 2))) (e := 2) (B := w.heap.size + 1) (cs := #[]) (n := 0) (g := w.heap.size + 1) [] (by simp) rfl rfl (Nat.le_refl _))
    have HZ : Hid (w.heap.size + 1 ≤ ((w.alloc (.cells #[] 2)).alloc (.cells #[] 2)).heap.size) := Lib.hid (by simp)
    go_enter Tryz.func30, Tryz.ntmps30
    go_wp2
    generalize World.alloc _ _ = w0 at *
    go_loopw [5, 6] (fun q i wr => ∃ j : Nat, j ≤ 10 ∧ i = .int .i64 (j : Int) ∧ Ow cI 2 (w.heap.size + 1) wr q (rgI j) ∧ Below (w.heap.size + 1) w0 wr) (fun _ i _ => 10 - (intOf i).toNat)
    case atStart => exact ⟨0, Nat.zero_le _, rfl, HN.out, Below.refl _ _⟩
    case round =>
      obtain ⟨j, hj, rfl, ho, hb⟩ := hrel
      obtain ⟨Ao, co, rfl⟩ := ho.opn
      have hL : (rgI j).length = j := rgI_len j
      rw [hL] at ho ⊢
      have HL := Lib.hid hL
      have HO := Lib.hid ho
      have HB := Lib.hid hb
      have hz := Lib.hid (Nat.le_trans HZ.out hb.size)
      clear hL ho hb
      by_cases hlt : j < 10
      · go_wp2_with (at_builtin; refine stopHere ?_)
        refine goHere ?_
        refine ap_one (K := cI) _ ty_int64 rfl _ _ rfl (B := w.heap.size + 1) (v := .slice Ao j co) (xs := rgI j) rfl HO.out (j : Int) rfl rfl (by rw [HL.out]; omega) hz.out ?_
        intro v1 w1 ho1 hg1 hb1 hat1
        rw [liR_succ] at ho1
        have HO1 := Lib.hid ho1
        have HB1 := Lib.hid (HB.out.trans hb1)
        clear ho1 hg1 hb1 hat1
        go_wp2
        go_roundw
        case rel => exact ⟨j + 1, by omega, by go_num, HO1.out, HB1.out⟩
        case measure => simp [intOf]; omega
      · obtain rfl : j = 10 := by omega
        have hm1 : Sl cI wr (.slice (some ⟨w.heap.size, 0, none⟩) 0 0) ([] : List Int) := HM.out.keptAt HB.out.size fun p hp hv => HB.out.cell (by have e : some (w.heap.size) = some p.block := hv; injection e with e; omega)
        have HM1 := Lib.hid hm1
        clear hm1
        go_wp2_with (at_builtin; refine stopHere ?_)
        refine goHere ?_
        refine ap_sl (K := cI) _ ty_int64 rfl _ _ rfl rfl rfl (B := w.heap.size + 1) (v := .slice Ao 10 co) (xs := rgI 10) (news := ([] : List Int)) HO.out HM1.out (by rw [HL.out]; simp) hz.out ?_
        intro v1 w1 ho1 hg1 hb1 hat1
        have HO1 := Lib.hid ho1
        have HB1 := Lib.hid (HB0.out.trans ((HB.out.trans hb1).mono (by omega)))
        clear ho1 hg1 hb1 hat1
        obtain ⟨A9, c9, rfl⟩ := HO1.out.opn
        go_wp2
        go_ret
        exact ⟨_, rfl, by rw [HS.out]; exact HO1.out.mono (by omega), HB1.out⟩
  | false =>
  cases h2 : (l == [75]) with
  | true =>
    have HS : Hid (sysS l = some [0, 1, 2, 3, 4, 5, 6, 7, 8, 9, 10, 11, 12]) := Lib.hid (by simp only [beq_eq_false_iff_ne, beq_iff_eq] at *; subst l; rfl)
    have HB0 : Hid (Below w.heap.size w ((w.alloc (.cells #[] 2)).alloc (.cells #[] 2))) := Lib.hid (bthen (below_alloc' _ _) (below_alloc' _ _))
    have HM : Hid (Sl cI ((w.alloc (.cells #[] 2)).alloc (.cells #[] 2)) (.slice (some ⟨w.heap.size, 0, none⟩) 0 0) ([] : List Int)) := Lib.hid (Sl.alloc (Ow.lit' (K := cI) (w := w) (e := 2) (B := w.heap.size) (cs := #[]) (n := 0) (g := w.heap.size) ([] : List Int) (by simp) rfl rfl (by simp)).sl _)
    have HN : Hid (Ow cI 2 (w.heap.size + 1) ((w.alloc (.cells #[] 2)).alloc (.cells #[] 2)) (.slice (some ⟨w.heap.size + 1, 0, none⟩) 0 0) (rgI 0)) := Lib.hid (Ow.lit' (K := cI) (w := (w.alloc (.cells #[] 2))) (e := 2) (B := w.heap.size + 1) (cs := #[]) (n := 0) (g := w.heap.size + 1) [] (by simp) rfl rfl (Nat.le_refl _))
    have HZ : Hid (w.heap.size + 1 ≤ ((w.alloc (.cells #[] 2)).alloc (.cells #[] 2)).heap.size) := Lib.hid (by simp)
    go_enter Tryz.func30, Tryz.ntmps30
    go_wp2
    generalize World.alloc _ _ = w0 at *
    go_loopw [5, 6] (fun q i wr => ∃ j : Nat, j ≤ 13 ∧ i = .int .i64 (j : Int) ∧ Ow cI 2 (w.heap.size + 1) wr q (rgI j) ∧ Below (w.heap.size + 1) w0 wr) (fun _ i _ => 13 - (intOf i).toNat)
    case atStart => exact ⟨0, Nat.zero_le _, rfl, HN.out, Below.refl _ _⟩
    case round =>
      obtain ⟨j, hj, rfl, ho, hb⟩ := hrel
      obtain ⟨Ao, co, rfl⟩ := ho.opn
      have hL : (rgI j).length = j := rgI_len j
      rw [hL] at ho ⊢
      have HL := Lib.hid hL
      have HO := Lib.hid ho
      have HB := Lib.hid hb
      have hz := Lib.hid (Nat.le_trans HZ.out hb.size)
      clear hL ho hb
      by_cases hlt : j < 13
      · go_wp2_with (at_builtin; refine stopHere ?_)
        refine goHere ?_
        refine ap_one (K := cI) _ ty_int64 rfl _ _ rfl (B := w.heap.size + 1) (v := .slice Ao j co) (xs := rgI j) rfl HO.out (j : Int) rfl rfl (by rw [HL.out]; omega) hz.out ?_
        intro v1 w1 ho1 hg1 hb1 hat1
        rw [liR_succ] at ho1
        have HO1 := Lib.hid ho1
        have HB1 := Lib.hid (HB.out.trans hb1)
        clear ho1 hg1 hb1 hat1
        go_wp2
        go_roundw
        case rel => exact ⟨j + 1, by omega, by go_num, HO1.out, HB1.out⟩
        case measure => simp [intOf]; omega
      · obtain rfl : j = 13 := by omega
        have hm1 : Sl cI wr (.slice (some ⟨w.heap.size, 0, none⟩) 0 0) ([] : List Int) := HM.out.keptAt HB.out.size fun p hp hv => HB.out.cell (by have e : some (w.heap.size) = some p.block := hv; injection e with e; omega)
        have HM1 := Lib.hid hm1
        clear hm1
        go_wp2_with (at_builtin; refine stopHere ?_)
        refine goHere ?_
        refine ap_sl (K := cI) _ ty_int64 rfl _ _ rfl rfl rfl (B := w.heap.size + 1) (v := .slice Ao 13 co) (xs := rgI 13) (news := ([] : List Int)) HO.out HM1.out (by rw [HL.out]; simp) hz.out ?_
        intro v1 w1 ho1 hg1 hb1 hat1
        have HO1 := Lib.hid ho1
        have HB1 := Lib.hid (HB0.out.trans ((HB.out.trans hb1).mono (by omega)))
        clear ho1 hg1 hb1 hat1
        obtain ⟨A9, c9, rfl⟩ := HO1.out.opn
        go_wp2
        go_ret
        exact ⟨_, rfl, by rw [HS.out]; exact HO1.out.mono (by omega), HB1.out⟩
  | false =>
  cases h3 : (l == [68]) with
  | true =>
    have HS : Hid (sysS l = some [0, 1, 2, 3, 4, 5, 6, 7, 8, 9, 10, 11, 12, 17]) := Lib.hid (by simp only [beq_eq_false_iff_ne, beq_iff_eq] at *; subst l; rfl)
    have HB0 : Hid (Below w.heap.size w (((w.alloc (.cells #[] 2)).alloc (.cells #[.int .i64 17] 2)).alloc (.cells #[] 2))) := Lib.hid (bthen (bthen (below_alloc' _ _) (below_alloc' _ _)) (below_alloc' _ _))
    have HM : Hid (Sl cI (((w.alloc (.cells #[] 2)).alloc (.cells #[.int .i64 17] 2)).alloc (.cells #[] 2)) (.slice (some ⟨w.heap.size + 1, 0, none⟩) 1 1) [(17 : Int)]) := Lib.hid (Sl.alloc (Ow.lit' (K := cI) (w := (w.alloc (.cells #[] 2))) (e := 2) (B := w.heap.size) (cs := #[.int .i64 17]) (n := 1) (g := w.heap.size + 1) [(17 : Int)] (by simp) rfl rfl (by simp)).sl _)
    have HN : Hid (Ow cI 2 (w.heap.size + 2) (((w.alloc (.cells #[] 2)).alloc (.cells #[.int .i64 17] 2)).alloc (.cells #[] 2)) (.slice (some ⟨w.heap.size + 2, 0, none⟩) 0 0) (rgI 0)) := Lib.hid (Ow.lit' (K := cI) (w := ((w.alloc (.cells #[] 2)).alloc (.cells #[.int .i64 17] 2))) (e := 2) (B := w.heap.size + 2) (cs := #[]) (n := 0) (g := w.heap.size + 2) [] (by simp) rfl rfl (Nat.le_refl _))
    have HZ : Hid (w.heap.size + 2 ≤ (((w.alloc (.cells #[] 2)).alloc (.cells #[.int .i64 17] 2)).alloc (.cells #[] 2)).heap.size) := Lib.hid (by simp)
    go_enter Tryz.func30, Tryz.ntmps30
    go_wp2
    generalize World.alloc _ _ = w0 at *
    go_loopw [5, 6] (fun q i wr => ∃ j : Nat, j ≤ 13 ∧ i = .int .i64 (j : Int) ∧ Ow cI 2 (w.heap.size + 2) wr q (rgI j) ∧ Below (w.heap.size + 2) w0 wr) (fun _ i _ => 13 - (intOf i).toNat)
    case atStart => exact ⟨0, Nat.zero_le _, rfl, HN.out, Below.refl _ _⟩
    case round =>
      obtain ⟨j, hj, rfl, ho, hb⟩ := hrel
      obtain ⟨Ao, co, rfl⟩ := ho.opn
      have hL : (rgI j).length = j := rgI_len j
      rw [hL] at ho ⊢
      have HL := Lib.hid hL
      have HO := Lib.hid ho
      have HB := Lib.hid hb
      have hz := Lib.hid (Nat.le_trans HZ.out hb.size)
      clear hL ho hb
      by_cases hlt : j < 13
      · go_wp2_with (at_builtin; refine stopHere ?_)
        refine goHere ?_
        refine ap_one (K := cI) _ ty_int64 rfl _ _ rfl (B := w.heap.size + 2) (v := .slice Ao j co) (xs := rgI j) rfl HO.out (j : Int) rfl rfl (by rw [HL.out]; omega) hz.out ?_
        intro v1 w1 ho1 hg1 hb1 hat1
        rw [liR_succ] at ho1
        have HO1 := Lib.hid ho1
        have HB1 := Lib.hid (HB.out.trans hb1)
        clear ho1 hg1 hb1 hat1
        go_wp2
        go_roundw
        case rel => exact ⟨j + 1, by omega, by go_num, HO1.out, HB1.out⟩
        case measure => simp [intOf]; omega
      · obtain rfl : j = 13 := by omega
        have hm1 : Sl cI wr (.slice (some ⟨w.heap.size + 1, 0, none⟩) 1 1) [(17 : Int)] := HM.out.keptAt HB.out.size fun p hp hv => HB.out.cell (by have e : some (w.heap.size + 1) = some p.block := hv; injection e with e; omega)
        have HM1 := Lib.hid hm1
        clear hm1
        go_wp2_with (at_builtin; refine stopHere ?_)
        refine goHere ?_
        refine ap_sl (K := cI) _ ty_int64 rfl _ _ rfl rfl rfl (B := w.heap.size + 2) (v := .slice Ao 13 co) (xs := rgI 13) (news := [(17 : Int)]) HO.out HM1.out (by rw [HL.out]; simp) hz.out ?_
        intro v1 w1 ho1 hg1 hb1 hat1
        have HO1 := Lib.hid ho1
        have HB1 := Lib.hid (HB0.out.trans ((HB.out.trans hb1).mono (by omega)))
        clear ho1 hg1 hb1 hat1
        obtain ⟨A9, c9, rfl⟩ := HO1.out.opn
        go_wp2
        go_ret
        exact ⟨_, rfl, by rw [HS.out]; exact HO1.out.mono (by omega), HB1.out⟩
  | false =>
  cases h4 : (l == [84]) with
  | true =>
    have HS : Hid (sysS l = some [0, 1, 2, 3, 4, 5, 6, 7, 8, 9, 10, 11, 12, 13]) := Lib.hid (by simp only [beq_eq_false_iff_ne, beq_iff_eq] at *; subst l; rfl)
    have HB0 : Hid (Below w.heap.size w (((w.alloc (.cells #[] 2)).alloc (.cells #[.int .i64 13] 2)).alloc (.cells #[] 2))) := Lib.hid (bthen (bthen (below_alloc' _ _) (below_alloc' _ _)) (below_alloc' _ _))
    have HM : Hid (Sl cI (((w.alloc (.cells #[] 2)).alloc (.cells #[.int .i64 13] 2)).alloc (.cells #[] 2)) (.slice (some ⟨w.heap.size + 1, 0, none⟩) 1 1) [(13 : Int)]) := Lib.hid (Sl.alloc (Ow.lit' (K := cI) (w := (w.alloc (.cells #[] 2))) (e := 2) (B := w.heap.size) (cs := #[.int .i64 13]) (n := 1) (g := w.heap.size + 1) [(13 : Int)] (by simp) rfl rfl (by simp)).sl _)
    have HN : Hid (Ow cI 2 (w.heap.size + 2) (((w.alloc (.cells #[] 2)).alloc (.cells #[.int .i64 13] 2)).alloc (.cells #[] 2)) (.slice (some ⟨w.heap.size + 2, 0, none⟩) 0 0) (rgI 0)) := Lib.hid (Ow.lit' (K := cI) (w := ((w.alloc (.cells #[] 2)).alloc (.cells #[.int .i64 13] 2))) (e := 2) (B := w.heap.size + 2) (cs := #[]) (n := 0) (g := w.heap.size + 2) [] (by simp) rfl rfl (Nat.le_refl _))
    have HZ : Hid (w.heap.size + 2 ≤ (((w.alloc (.cells #[] 2)).alloc (.cells #[.int .i64 13] 2)).alloc (.cells #[] 2)).heap.size) := Lib.hid (by simp)
    go_enter Tryz.func30, Tryz.ntmps30
    go_wp2
    generalize World.alloc _ _ = w0 at *
    go_loopw [5, 6] (fun q i wr => ∃ j : Nat, j ≤ 13 ∧ i = .int .i64 (j : Int) ∧ Ow cI 2 (w.heap.size + 2) wr q (rgI j) ∧ Below (w.heap.size + 2) w0 wr) (fun _ i _ => 13 - (intOf i).toNat)
    case atStart => exact ⟨0, Nat.zero_le _, rfl, HN.out, Below.refl _ _⟩
    case round =>
      obtain ⟨j, hj, rfl, ho, hb⟩ := hrel
      obtain ⟨Ao, co, rfl⟩ := ho.opn
      have hL : (rgI j).length = j := rgI_len j
      rw [hL] at ho ⊢
      have HL := Lib.hid hL
      have HO := Lib.hid ho
      have HB := Lib.hid hb
      have hz := Lib.hid (Nat.le_trans HZ.out hb.size)
      clear hL ho hb
      by_cases hlt : j < 13
      · go_wp2_with (at_builtin; refine stopHere ?_)
        refine goHere ?_
        refine ap_one (K := cI) _ ty_int64 rfl _ _ rfl (B := w.heap.size + 2) (v := .slice Ao j co) (xs := rgI j) rfl HO.out (j : Int) rfl rfl (by rw [HL.out]; omega) hz.out ?_
        intro v1 w1 ho1 hg1 hb1 hat1
        rw [liR_succ] at ho1
        have HO1 := Lib.hid ho1
        have HB1 := Lib.hid (HB.out.trans hb1)
        clear ho1 hg1 hb1 hat1
        go_wp2
        go_roundw
        case rel => exact ⟨j + 1, by omega, by go_num, HO1.out, HB1.out⟩
        case measure => simp [intOf]; omega
      · obtain rfl : j = 13 := by omega
        have hm1 : Sl cI wr (.slice (some ⟨w.heap.size + 1, 0, none⟩) 1 1) [(13 : Int)] := HM.out.keptAt HB.out.size fun p hp hv => HB.out.cell (by have e : some (w.heap.size + 1) = some p.block := hv; injection e with e; omega)
        have HM1 := Lib.hid hm1
        clear hm1
        go_wp2_with (at_builtin; refine stopHere ?_)
        refine goHere ?_
        refine ap_sl (K := cI) _ ty_int64 rfl _ _ rfl rfl rfl (B := w.heap.size + 2) (v := .slice Ao 13 co) (xs := rgI 13) (news := [(13 : Int)]) HO.out HM1.out (by rw [HL.out]; simp) hz.out ?_
        intro v1 w1 ho1 hg1 hb1 hat1
        have HO1 := Lib.hid ho1
        have HB1 := Lib.hid (HB0.out.trans ((HB.out.trans hb1).mono (by omega)))
        clear ho1 hg1 hb1 hat1
        obtain ⟨A9, c9, rfl⟩ := HO1.out.opn
        go_wp2
        go_ret
        exact ⟨_, rfl, by rw [HS.out]; exact HO1.out.mono (by omega), HB1.out⟩
  | false =>
  cases h5 : (l == [75, 52]) with
  | true =>
    have HS : Hid (sysS l = some [0, 1, 2, 3, 4, 5, 6, 7, 8, 9, 10, 11, 12, 14]) := Lib.hid (by simp only [beq_eq_false_iff_ne, beq_iff_eq] at *; subst l; rfl)
    have HB0 : Hid (Below w.heap.size w (((w.alloc (.cells #[] 2)).alloc (.cells #[.int .i64 14] 2)).alloc (.cells #[] 2))) := Lib.hid (bthen (bthen (below_alloc' _ _) (below_alloc' _ _)) (below_alloc' _ _))
    have HM : Hid (Sl cI (((w.alloc (.cells #[] 2)).alloc (.cells #[.int .i64 14] 2)).alloc (.cells #[] 2)) (.slice (some ⟨w.heap.size + 1, 0, none⟩) 1 1) [(14 : Int)]) := Lib.hid (Sl.alloc (Ow.lit' (K := cI) (w := (w.alloc (.cells #[] 2))) (e := 2) (B := w.heap.size) (cs := #[.int .i64 14]) (n := 1) (g := w.heap.size + 1) [(14 : Int)] (by simp) rfl rfl (by simp)).sl _)
    have HN : Hid (Ow cI 2 (w.heap.size + 2) (((w.alloc (.cells #[] 2)).alloc (.cells #[.int .i64 14] 2)).alloc (.cells #[] 2)) (.slice (some ⟨w.heap.size + 2, 0, none⟩) 0 0) (rgI 0)) := Lib.hid (Ow.lit' (K := cI) (w := ((w.alloc (.cells #[] 2)).alloc (.cells #[.int .i64 14] 2))) (e := 2) (B := w.heap.size + 2) (cs := #[]) (n := 0) (g := w.heap.size + 2) [] (by simp) rfl rfl (Nat.le_refl _))
    have HZ : Hid (w.heap.size + 2 ≤ (((w.alloc (.cells #[] 2)).alloc (.cells #[.int .i64 14] 2)).alloc (.cells #[] 2)).heap.size) := Lib.hid (by simp)
    go_enter Tryz.func30, Tryz.ntmps30
    go_wp2
    generalize World.alloc _ _ = w0 at *
    go_loopw [5, 6] (fun q i wr => ∃ j : Nat, j ≤ 13 ∧ i = .int .i64 (j : Int) ∧ Ow cI 2 (w.heap.size + 2) wr q (rgI j) ∧ Below (w.heap.size + 2) w0 wr) (fun _ i _ => 13 - (intOf i).toNat)
    case atStart => exact ⟨0, Nat.zero_le _, rfl, HN.out, Below.refl _ _⟩
    case round =>
      obtain ⟨j, hj, rfl, ho, hb⟩ := hrel
      obtain ⟨Ao, co, rfl⟩ := ho.opn
      have hL : (rgI j).length = j := rgI_len j
      rw [hL] at ho ⊢
      have HL := Lib.hid hL
      have HO := Lib.hid ho
      have HB := Lib.hid hb
      have hz := Lib.hid (Nat.le_trans HZ.out hb.size)
      clear hL ho hb
      by_cases hlt : j < 13
      · go_wp2_with (at_builtin; refine stopHere ?_)
        refine goHere ?_
        refine ap_one (K := cI) _ ty_int64 rfl _ _ rfl (B := w.heap.size + 2) (v := .slice Ao j co) (xs := rgI j) rfl HO.out (j : Int) rfl rfl (by rw [HL.out]; omega) hz.out ?_
        intro v1 w1 ho1 hg1 hb1 hat1
        rw [liR_succ] at ho1
        have HO1 := Lib.hid ho1
        have HB1 := Lib.hid (HB.out.trans hb1)
        clear ho1 hg1 hb1 hat1
        go_wp2
        go_roundw
        case rel => exact ⟨j + 1, by omega, by go_num, HO1.out, HB1.out⟩
        case measure => simp [intOf]; omega
      · obtain rfl : j = 13 := by omega
        have hm1 : Sl cI wr (.slice (some ⟨w.heap.size + 1, 0, none⟩) 1 1) [(14 : Int)] := HM.out.keptAt HB.out.size fun p hp hv => HB.out.cell (by have e : some (w.heap.size + 1) = some p.block := hv; injection e with e; omega)
        have HM1 := Lib.hid hm1
        clear hm1
        go_wp2_with (at_builtin; refine stopHere ?_)
        refine goHere ?_
        refine ap_sl (K := cI) _ ty_int64 rfl _ _ rfl rfl rfl (B := w.heap.size + 2) (v := .slice Ao 13 co) (xs := rgI 13) (news := [(14 : Int)]) HO.out HM1.out (by rw [HL.out]; simp) hz.out ?_
        intro v1 w1 ho1 hg1 hb1 hat1
        have HO1 := Lib.hid ho1
        have HB1 := Lib.hid (HB0.out.trans ((HB.out.trans hb1).mono (by omega)))
        clear ho1 hg1 hb1 hat1
        obtain ⟨A9, c9, rfl⟩ := HO1.out.opn
        go_wp2
        go_ret
        exact ⟨_, rfl, by rw [HS.out]; exact HO1.out.mono (by omega), HB1.out⟩
  | false =>
  cases h6 : (l == [83, 52]) with
  | true =>
    have HS : Hid (sysS l = some [0, 1, 2, 3, 4, 5, 6, 7, 8, 9, 10, 11, 12, 13, 14]) := Lib.hid (by simp only [beq_eq_false_iff_ne, beq_iff_eq] at *; subst l; rfl)
    have HB0 : Hid (Below w.heap.size w (((w.alloc (.cells #[] 2)).alloc (.cells #[.int .i64 13, .int .i64 14] 2)).alloc (.cells #[] 2))) := Lib.hid (bthen (bthen (below_alloc' _ _) (below_alloc' _ _)) (below_alloc' _ _))
    have HM : Hid (Sl cI (((w.alloc (.cells #[] 2)).alloc (.cells #[.int .i64 13, .int .i64 14] 2)).alloc (.cells #[] 2)) (.slice (some ⟨w.heap.size + 1, 0, none⟩) 2 2) [(13 : Int), (14 : Int)]) := Lib.hid (Sl.alloc (Ow.lit' (K := cI) (w := (w.alloc (.cells #[] 2))) (e := 2) (B := w.heap.size) (cs := #[.int .i64 13, .int .i64 14]) (n := 2) (g := w.heap.size + 1) [(13 : Int), (14 : Int)] (by simp) rfl rfl (by simp)).sl _)
    have HN : Hid (Ow cI 2 (w.heap.size + 2) (((w.alloc (.cells #[] 2)).alloc (.cells #[.int .i64 13, .int .i64 14] 2)).alloc (.cells #[] 2)) (.slice (some ⟨w.heap.size + 2, 0, none⟩) 0 0) (rgI 0)) := Lib.hid (Ow.lit' (K := cI) (w := ((w.alloc (.cells #[] 2)).alloc (.cells #[.int .i64 13, .int .i64 14] 2))) (e := 2) (B := w.heap.size + 2) (cs := #[]) (n := 0) (g := w.heap.size + 2) [] (by simp) rfl rfl (Nat.le_refl _))
    have HZ : Hid (w.heap.size + 2 ≤ (((w.alloc (.cells #[] 2)).alloc (.cells #[.int .i64 13, .int .i64 14] 2)).alloc (.cells #[] 2)).heap.size) := Lib.hid (by simp)
    go_enter Tryz.func30, Tryz.ntmps30
    go_wp2
    generalize World.alloc _ _ = w0 at *
    go_loopw [5, 6] (fun q i wr => ∃ j : Nat, j ≤ 13 ∧ i = .int .i64 (j : Int) ∧ Ow cI 2 (w.heap.size + 2) wr q (rgI j) ∧ Below (w.heap.size + 2) w0 wr) (fun _ i _ => 13 - (intOf i).toNat)
    case atStart => exact ⟨0, Nat.zero_le _, rfl, HN.out, Below.refl _ _⟩
    case round =>
      obtain ⟨j, hj, rfl, ho, hb⟩ := hrel
      obtain ⟨Ao, co, rfl⟩ := ho.opn
      have hL : (rgI j).length = j := rgI_len j
      rw [hL] at ho ⊢
      have HL := Lib.hid hL
      have HO := Lib.hid ho
      have HB := Lib.hid hb
      have hz := Lib.hid (Nat.le_trans HZ.out hb.size)
      clear hL ho hb
      by_cases hlt : j < 13
      · go_wp2_with (at_builtin; refine stopHere ?_)
        refine goHere ?_
        refine ap_one (K := cI) _ ty_int64 rfl _ _ rfl (B := w.heap.size + 2) (v := .slice Ao j co) (xs := rgI j) rfl HO.out (j : Int) rfl rfl (by rw [HL.out]; omega) hz.out ?_
        intro v1 w1 ho1 hg1 hb1 hat1
        rw [liR_succ] at ho1
        have HO1 := Lib.hid ho1
        have HB1 := Lib.hid (HB.out.trans hb1)
        clear ho1 hg1 hb1 hat1
        go_wp2
        go_roundw
        case rel => exact ⟨j + 1, by omega, by go_num, HO1.out, HB1.out⟩
        case measure => simp [intOf]; omega
      · obtain rfl : j = 13 := by omega
        have hm1 : Sl cI wr (.slice (some ⟨w.heap.size + 1, 0, none⟩) 2 2) [(13 : Int), (14 : Int)] := HM.out.keptAt HB.out.size fun p hp hv => HB.out.cell (by have e : some (w.heap.size + 1) = some p.block := hv; injection e with e; omega)
        have HM1 := Lib.hid hm1
        clear hm1
        go_wp2_with (at_builtin; refine stopHere ?_)
        refine goHere ?_
        refine ap_sl (K := cI) _ ty_int64 rfl _ _ rfl rfl rfl (B := w.heap.size + 2) (v := .slice Ao 13 co) (xs := rgI 13) (news := [(13 : Int), (14 : Int)]) HO.out HM1.out (by rw [HL.out]; simp) hz.out ?_
        intro v1 w1 ho1 hg1 hb1 hat1
        have HO1 := Lib.hid ho1
        have HB1 := Lib.hid (HB0.out.trans ((HB.out.trans hb1).mono (by omega)))
        clear ho1 hg1 hb1 hat1
        obtain ⟨A9, c9, rfl⟩ := HO1.out.opn
        go_wp2
        go_ret
        exact ⟨_, rfl, by rw [HS.out]; exact HO1.out.mono (by omega), HB1.out⟩
  | false =>
  cases h7 : (l == [83, 53]) with
  | true =>
    have HS : Hid (sysS l = some [0, 1, 2, 3, 4, 5, 6, 7, 8, 9, 10, 11, 12, 13, 15]) := Lib.hid (by simp only [beq_eq_false_iff_ne, beq_iff_eq] at *; subst l; rfl)
    have HB0 : Hid (Below w.heap.size w (((w.alloc (.cells #[] 2)).alloc (.cells #[.int .i64 13, .int .i64 15] 2)).alloc (.cells #[] 2))) := Lib.hid (bthen (bthen (below_alloc' _ _) (below_alloc' _ _)) (below_alloc' _ _))
    have HM : Hid (Sl cI (((w.alloc (.cells #[] 2)).alloc (.cells #[.int .i64 13, .int .i64 15] 2)).alloc (.cells #[] 2)) (.slice (some ⟨w.heap.size + 1, 0, none⟩) 2 2) [(13 : Int), (15 : Int)]) := Lib.hid (Sl.alloc (Ow.lit' (K := cI) (w := (w.alloc (.cells #[] 2))) (e := 2) (B := w.heap.size) (cs := #[.int .i64 13, .int .i64 15]) (n := 2) (g := w.heap.size + 1) [(13 : Int), (15 : Int)] (by simp) rfl rfl (by simp)).sl _)
    have HN : Hid (Ow cI 2 (w.heap.size + 2) (((w.alloc (.cells #[] 2)).alloc (.cells #[.int .i64 13, .int .i64 15] 2)).alloc (.cells #[] 2)) (.slice (some ⟨w.heap.size + 2, 0, none⟩) 0 0) (rgI 0)) := Lib.hid (Ow.lit' (K := cI) (w := ((w.alloc (.cells #[] 2)).alloc (.cells #[.int .i64 13, .int .i64 15] 2))) (e := 2) (B := w.heap.size + 2) (cs := #[]) (n := 0) (g := w.heap.size + 2) [] (by simp) rfl rfl (Nat.le_refl _))
    have HZ : Hid (w.heap.size + 2 ≤ (((w.alloc (.cells #[] 2)).alloc (.cells #[.int .i64 13, .int .i64 15] 2)).alloc (.cells #[] 2)).heap.size) := Lib.hid (by simp)
    go_enter Tryz.func30, Tryz.ntmps30
    go_wp2
    generalize World.alloc _ _ = w0 at *
    go_loopw [5, 6] (fun q i wr => ∃ j : Nat, j ≤ 13 ∧ i = .int .i64 (j : Int) ∧ Ow cI 2 (w.heap.size + 2) wr q (rgI j) ∧ Below (w.heap.size + 2) w0 wr) (fun _ i _ => 13 - (intOf i).toNat)
    case atStart => exact ⟨0, Nat.zero_le _, rfl, HN.out, Below.refl _ _⟩
    case round =>
      obtain ⟨j, hj, rfl, ho, hb⟩ := hrel
      obtain ⟨Ao, co, rfl⟩ := ho.opn
      have hL : (rgI j).length = j := rgI_len j
      rw [hL] at ho ⊢
      have HL := Lib.hid hL
      have HO := Lib.hid ho
      have HB := Lib.hid hb
      have hz := Lib.hid (Nat.le_trans HZ.out hb.size)
      clear hL ho hb
      by_cases hlt : j < 13
      · go_wp2_with (at_builtin; refine stopHere ?_)
        refine goHere ?_
        refine ap_one (K := cI) _ ty_int64 rfl _ _ rfl (B := w.heap.size + 2) (v := .slice Ao j co) (xs := rgI j) rfl HO.out (j : Int) rfl rfl (by rw [HL.out]; omega) hz.out ?_
        intro v1 w1 ho1 hg1 hb1 hat1
        rw [liR_succ] at ho1
        have HO1 := Lib.hid ho1
        have HB1 := Lib.hid (HB.out.trans hb1)
        clear ho1 hg1 hb1 hat1
        go_wp2
        go_roundw
        case rel => exact ⟨j + 1, by omega, by go_num, HO1.out, HB1.out⟩
        case measure => simp [intOf]; omega
      · obtain rfl : j = 13 := by omega
        have hm1 : Sl cI wr (.slice (some ⟨w.heap.size + 1, 0, none⟩) 2 2) [(13 : Int), (15 : Int)] := HM.out.keptAt HB.out.size fun p hp hv => HB.out.cell (by have e : some (w.heap.size + 1) = some p.block := hv; injection e with e; omega)
        have HM1 := Lib.hid hm1
        clear hm1
        go_wp2_with (at_builtin; refine stopHere ?_)
        refine goHere ?_
        refine ap_sl (K := cI) _ ty_int64 rfl _ _ rfl rfl rfl (B := w.heap.size + 2) (v := .slice Ao 13 co) (xs := rgI 13) (news := [(13 : Int), (15 : Int)]) HO.out HM1.out (by rw [HL.out]; simp) hz.out ?_
        intro v1 w1 ho1 hg1 hb1 hat1
        have HO1 := Lib.hid ho1
        have HB1 := Lib.hid (HB0.out.trans ((HB.out.trans hb1).mono (by omega)))
        clear ho1 hg1 hb1 hat1
        obtain ⟨A9, c9, rfl⟩ := HO1.out.opn
        go_wp2
        go_ret
        exact ⟨_, rfl, by rw [HS.out]; exact HO1.out.mono (by omega), HB1.out⟩
  | false =>
  cases h8 : (l == [75, 66]) with
  | true =>
    have HS : Hid (sysS l = some [0, 1, 2, 3, 4, 5, 6, 7, 8, 9, 10, 11, 12, 16]) := Lib.hid (by simp only [beq_eq_false_iff_ne, beq_iff_eq] at *; subst l; rfl)
    have HB0 : Hid (Below w.heap.size w (((w.alloc (.cells #[] 2)).alloc (.cells #[.int .i64 16] 2)).alloc (.cells #[] 2))) := Lib.hid (bthen (bthen (below_alloc' _ _) (below_alloc' _ _)) (below_alloc' _ _))
    have HM : Hid (Sl cI (((w.alloc (.cells #[] 2)).alloc (.cells #[.int .i64 16] 2)).alloc (.cells #[] 2)) (.slice (some ⟨w.heap.size + 1, 0, none⟩) 1 1) [(16 : Int)]) := Lib.hid (Sl.alloc (Ow.lit' (K := cI) (w := (w.alloc (.cells #[] 2))) (e := 2) (B := w.heap.size) (cs := #[.int .i64 16]) (n := 1) (g := w.heap.size + 1) [(16 : Int)] (by simp) rfl rfl (by simp)).sl _)
    have HN : Hid (Ow cI 2 (w.heap.size + 2) (((w.alloc (.cells #[] 2)).alloc (.cells #[.int .i64 16] 2)).alloc (.cells #[] 2)) (.slice (some ⟨w.heap.size + 2, 0, none⟩) 0 0) (rgI 0)) := Lib.hid (Ow.lit' (K := cI) (w := ((w.alloc (.cells #[] 2)).alloc (.cells #[.int .i64 16] 2))) (e := 2) (B := w.heap.size + 2) (cs := #[]) (n := 0) (g := w.heap.size + 2) [] (by simp) rfl rfl (Nat.le_refl _))
    have HZ : Hid (w.heap.size + 2 ≤ (((w.alloc (.cells #[] 2)).alloc (.cells #[.int .i64 16] 2)).alloc (.cells #[] 2)).heap.size) := Lib.hid (by simp)
    go_enter Tryz.func30, Tryz.ntmps30
    go_wp2
    generalize World.alloc _ _ = w0 at *
    go_loopw [5, 6] (fun q i wr => ∃ j : Nat, j ≤ 13 ∧ i = .int .i64 (j : Int) ∧ Ow cI 2 (w.heap.size + 2) wr q (rgI j) ∧ Below (w.heap.size + 2) w0 wr) (fun _ i _ => 13 - (intOf i).toNat)
    case atStart => exact ⟨0, Nat.zero_le _, rfl, HN.out, Below.refl _ _⟩
    case round =>
      obtain ⟨j, hj, rfl, ho, hb⟩ := hrel
      obtain ⟨Ao, co, rfl⟩ := ho.opn
      have hL : (rgI j).length = j := rgI_len j
      rw [hL] at ho ⊢
      have HL := Lib.hid hL
      have HO := Lib.hid ho
      have HB := Lib.hid hb
      have hz := Lib.hid (Nat.le_trans HZ.out hb.size)
      clear hL ho hb
      by_cases hlt : j < 13
      · go_wp2_with (at_builtin; refine stopHere ?_)
        refine goHere ?_
        refine ap_one (K := cI) _ ty_int64 rfl _ _ rfl (B := w.heap.size + 2) (v := .slice Ao j co) (xs := rgI j) rfl HO.out (j : Int) rfl rfl (by rw [HL.out]; omega) hz.out ?_
        intro v1 w1 ho1 hg1 hb1 hat1
        rw [liR_succ] at ho1
        have HO1 := Lib.hid ho1
        have HB1 := Lib.hid (HB.out.trans hb1)
        clear ho1 hg1 hb1 hat1
        go_wp2
        go_roundw
        case rel => exact ⟨j + 1, by omega, by go_num, HO1.out, HB1.out⟩
        case measure => simp [intOf]; omega
      · obtain rfl : j = 13 := by omega
        have hm1 : Sl cI wr (.slice (some ⟨w.heap.size + 1, 0, none⟩) 1 1) [(16 : Int)] := HM.out.keptAt HB.out.size fun p hp hv => HB.out.cell (by have e : some (w.heap.size + 1) = some p.block := hv; injection e with e; omega)
        have HM1 := Lib.hid hm1
        clear hm1
        go_wp2_with (at_builtin; refine stopHere ?_)
        refine goHere ?_
        refine ap_sl (K := cI) _ ty_int64 rfl _ _ rfl rfl rfl (B := w.heap.size + 2) (v := .slice Ao 13 co) (xs := rgI 13) (news := [(16 : Int)]) HO.out HM1.out (by rw [HL.out]; simp) hz.out ?_
        intro v1 w1 ho1 hg1 hb1 hat1
        have HO1 := Lib.hid ho1
        have HB1 := Lib.hid (HB0.out.trans ((HB.out.trans hb1).mono (by omega)))
        clear ho1 hg1 hb1 hat1
        obtain ⟨A9, c9, rfl⟩ := HO1.out.opn
        go_wp2
        go_ret
        exact ⟨_, rfl, by rw [HS.out]; exact HO1.out.mono (by omega), HB1.out⟩
  | false =>
  cases h9 : (l == [71, 76]) with
  | true =>
    have HS : Hid (sysS l = some [0, 1, 2, 3, 4, 5, 6, 7, 8, 9, 10, 11, 12, 18]) := Lib.hid (by simp only [beq_eq_false_iff_ne, beq_iff_eq] at *; subst l; rfl)
    have HB0 : Hid (Below w.heap.size w (((w.alloc (.cells #[] 2)).alloc (.cells #[.int .i64 18] 2)).alloc (.cells #[] 2))) := Lib.hid (bthen (bthen (below_alloc' _ _) (below_alloc' _ _)) (below_alloc' _ _))
    have HM : Hid (Sl cI (((w.alloc (.cells #[] 2)).alloc (.cells #[.int .i64 18] 2)).alloc (.cells #[] 2)) (.slice (some ⟨w.heap.size + 1, 0, none⟩) 1 1) [(18 : Int)]) := Lib.hid (Sl.alloc (Ow.lit' (K := cI) (w := (w.alloc (.cells #[] 2))) (e := 2) (B := w.heap.size) (cs := #[.int .i64 18]) (n := 1) (g := w.heap.size + 1) [(18 : Int)] (by simp) rfl rfl (by simp)).sl _)
    have HN : Hid (Ow cI 2 (w.heap.size + 2) (((w.alloc (.cells #[] 2)).alloc (.cells #[.int .i64 18] 2)).alloc (.cells #[] 2)) (.slice (some ⟨w.heap.size + 2, 0, none⟩) 0 0) (rgI 0)) := Lib.hid (Ow.lit' (K := cI) (w := ((w.alloc (.cells #[] 2)).alloc (.cells #[.int .i64 18] 2))) (e := 2) (B := w.heap.size + 2) (cs := #[]) (n := 0) (g := w.heap.size + 2) [] (by simp) rfl rfl (Nat.le_refl _))
    have HZ : Hid (w.heap.size + 2 ≤ (((w.alloc (.cells #[] 2)).alloc (.cells #[.int .i64 18] 2)).alloc (.cells #[] 2)).heap.size) := Lib.hid (by simp)
    go_enter Tryz.func30, Tryz.ntmps30
    go_wp2
    generalize World.alloc _ _ = w0 at *
    go_loopw [5, 6] (fun q i wr => ∃ j : Nat, j ≤ 13 ∧ i = .int .i64 (j : Int) ∧ Ow cI 2 (w.heap.size + 2) wr q (rgI j) ∧ Below (w.heap.size + 2) w0 wr) (fun _ i _ => 13 - (intOf i).toNat)
    case atStart => exact ⟨0, Nat.zero_le _, rfl, HN.out, Below.refl _ _⟩
    case round =>
      obtain ⟨j, hj, rfl, ho, hb⟩ := hrel
      obtain ⟨Ao, co, rfl⟩ := ho.opn
      have hL : (rgI j).length = j := rgI_len j
      rw [hL] at ho ⊢
      have HL := Lib.hid hL
      have HO := Lib.hid ho
      have HB := Lib.hid hb
      have hz := Lib.hid (Nat.le_trans HZ.out hb.size)
      clear hL ho hb
      by_cases hlt : j < 13
      · go_wp2_with (at_builtin; refine stopHere ?_)
        refine goHere ?_
        refine ap_one (K := cI) _ ty_int64 rfl _ _ rfl (B := w.heap.size + 2) (v := .slice Ao j co) (xs := rgI j) rfl HO.out (j : Int) rfl rfl (by rw [HL.out]; omega) hz.out ?_
        intro v1 w1 ho1 hg1 hb1 hat1
        rw [liR_succ] at ho1
        have HO1 := Lib.hid ho1
        have HB1 := Lib.hid (HB.out.trans hb1)
        clear ho1 hg1 hb1 hat1
        go_wp2
        go_roundw
        case rel => exact ⟨j + 1, by omega, by go_num, HO1.out, HB1.out⟩
        case measure => simp [intOf]; omega
      · obtain rfl : j = 13 := by omega
        have hm1 : Sl cI wr (.slice (some ⟨w.heap.size + 1, 0, none⟩) 1 1) [(18 : Int)] := HM.out.keptAt HB.out.size fun p hp hv => HB.out.cell (by have e : some (w.heap.size + 1) = some p.block := hv; injection e with e; omega)
        have HM1 := Lib.hid hm1
        clear hm1
        go_wp2_with (at_builtin; refine stopHere ?_)
        refine goHere ?_
        refine ap_sl (K := cI) _ ty_int64 rfl _ _ rfl rfl rfl (B := w.heap.size + 2) (v := .slice Ao 13 co) (xs := rgI 13) (news := [(18 : Int)]) HO.out HM1.out (by rw [HL.out]; simp) hz.out ?_
        intro v1 w1 ho1 hg1 hb1 hat1
        have HO1 := Lib.hid ho1
        have HB1 := Lib.hid (HB0.out.trans ((HB.out.trans hb1).mono (by omega)))
        clear ho1 hg1 hb1 hat1
        obtain ⟨A9, c9, rfl⟩ := HO1.out.opn
        go_wp2
        go_ret
        exact ⟨_, rfl, by rw [HS.out]; exact HO1.out.mono (by omega), HB1.out⟩
  | false =>
  have HS : Hid (sysS l = none) := Lib.hid (by unfold sysS; simp only [beq_eq_false_iff_ne] at *; simp [*])
  have HBn := Lib.hid (below_alloc' w (.cells #[] 2))
  go_enter Tryz.func30, Tryz.ntmps30
  go_wp2
  go_ret
  exact ⟨_, rfl, by rw [HS.out]; exact Ow.nil _ _, HBn.out⟩
end Go.Proofs.YtcikenffeekkeaaGreatDoor

/- Contracts of chapter 32: the Trace of a mask, of the program. -/
import Derived.Test.Ytbejakkcdbhmaaa32n
namespace Go.Proofs.Ytbejakkcdbhmaaa
open Go.RowKit
set_option linter.unusedVariables false
set_option linter.unusedSimpArgs false
theorem testBit_val (m i : Nat) (hm : m < 9223372036854775808) : bits .and .i64 ((m : Int) / 2 ^ i) 1 = if m.testBit i then 1 else 0 := by
  have h := i64_and_nat (m / 2 ^ i) 1 (Nat.lt_of_le_of_lt (Nat.div_le_self _ _) hm) (by decide)
  rw [div_cast]
  have h2 : ((1 : Nat) : Int) = 1 := rfl
  rw [h2] at h
  rw [h, Nat.and_one_is_mod, Nat.testBit_eq_decide_div_mod_eq]
  have := Nat.mod_lt (m / 2 ^ i) (show 0 < 2 by decide)
  by_cases hq : m / 2 ^ i % 2 = 1
  · rw [hq]; simp
  · rw [show m / 2 ^ i % 2 = 0 by omega]; simp
set_option maxRecDepth 100000 in
theorem impl_traceOf_fin (p : Nat → Bool) (w : World) (hp : p 60 = false) :
    Calls Try.prog 112 #[.int .i64 (msk p 61 : Nat)] w fun e w' => ∃ u, e = .returned (.agg #[.bool true, u]) ∧ Ow cI 2 w.heap.size w' u (trOf p) ∧ Below w.heap.size w w' := by
  have hlt := msk_lt p 61
  have hv : bits .and .i64 ((msk p 61 : Nat) / 1152921504606846976) 1 = 0 := by
    have h1 := testBit_val (msk p 61) 60 (by omega)
    rw [msk_testBit, hp] at h1
    simpa using h1
  have hr : Hid (msk (fun n => p n) 61 = msk (fun n => p n == !p 60) 61) := by
    show _ = _
    exact msk_congr _ _ _ fun i hi => by rw [hp]; cases p i <;> rfl
  have hlt2 := msk_lt (fun n => p n == !p 60) 61
  have HP := Lib.hid hp; clear hp
  go_enter Try.func112, Try.ntmps112
  go_wp2
  have b0 : Blk ((w.alloc (.cells #[.bool false, .slice none 0 0] 52)).alloc (.cells #[.bool true, .slice none 0 0] 52)) w.heap.size 52 #[.bool false, .slice none 0 0] := (Blk.new w _ _).alloc _
  have b1 : Blk ((w.alloc (.cells #[.bool false, .slice none 0 0] 52)).alloc (.cells #[.bool true, .slice none 0 0] 52)) (w.heap.size + 1) 52 #[.bool true, .slice none 0 0] := Blk.new' _ _ _ (by simp)
  have hB0 : Below w.heap.size w ((w.alloc (.cells #[.bool false, .slice none 0 0] 52)).alloc (.cells #[.bool true, .slice none 0 0] 52)) := ((Below.refl _ _).alloc (Nat.le_refl _) _).alloc (by simp) _
  have hS0 : w.heap.size + 2 ≤ ((w.alloc (.cells #[.bool false, .slice none 0 0] 52)).alloc (.cells #[.bool true, .slice none 0 0] 52)).heap.size := by simp
  have B0 := Lib.hid b0
  have B1 := Lib.hid b1
  have HB0 := Lib.hid hB0
  have S0 := Lib.hid hS0
  clear b0 b1 hB0 hS0 hv 
  go_loopw [15] (fun i wr => ∃ (j : Nat) (lv : Value), j ≤ 61 ∧ i = .int .i64 j ∧ Ow cI 2 (w.heap.size + 2) wr lv (trTo p j) ∧ Blk wr (w.heap.size + 1) 52 #[.bool true, lv] ∧ Blk wr w.heap.size 52 #[.bool false, .slice none 0 0] ∧ Below w.heap.size w wr ∧ w.heap.size + 2 ≤ wr.heap.size) (fun i _ => 61 - (intOf i).toNat)
  case atStart => exact ⟨0, _, by omega, rfl, Ow.nil _ _, B1.out, B0.out, HB0.out, S0.out⟩
  case round =>
    obtain ⟨j, lv, hj, rfl, ho, hk, hk0, hbw, hsz⟩ := hrel
    clear B0 B1 HB0 S0
    have hlen := trTo_length p j
    obtain ⟨A1, c1, rfl⟩ := ho.opn
    have k1 := hk.cell
    have k2 := hk.frozen
    have HO := Lib.hid ho; have HK := Lib.hid hk; have HK0 := Lib.hid hk0; have HBW := Lib.hid hbw
    clear ho hk hk0 hbw
    by_cases hlt1 : j < 61
    · have HS := Lib.hid (trTo_succ p j)
      have hf := testBit_form (msk p 61) j (by omega)
      have ht : (msk p 61).testBit j = (p j == !p 60) := by rw [show msk p 61 = msk (fun n => p n == !p 60) 61 from hr.out]; rw [msk_testBit, decide_eq_true hlt1, Bool.true_and]
      by_cases hq : (p j == !p 60) = true
      · rw [hq, if_pos rfl] at HS
        rw [ht, hq] at hf
        clear ht hq
        go_wp2_with (at_builtin; refine stopHere ?_)
        refine goHere ?_
        refine ap_one (K := cI) _ ty_int64 rfl _ _ rfl (xs := trTo p j) rfl HO.out j rfl rfl (by omega) (by omega) ?_
        intro v1 w1 ho1 hg1 hb1 hat1
        have m1 := (HK.out.alloc (.cells #[.int .i64 j] 2)).grown hg1 (HO.out.apart (.inl (by omega)))
        have m0 := (HK0.out.alloc (.cells #[.int .i64 j] 2)).grown hg1 (HO.out.apart (.inl (by omega)))
        have hbw1 : Below w.heap.size w w1 := HBW.out.trans (hb1.mono (by omega))
        have hsz1 := hb1.size
        obtain ⟨A2, c2, rfl⟩ := ho1.opn
        have el : (trTo p j ++ [(j : Int)]).length = (trTo p j).length + 1 := by simp
        rw [el] at ho1 ⊢
        clear k1 k2 el
        have k1 := m1.cell
        have k2 := m1.frozen
        have M1 := Lib.hid m1; have M0 := Lib.hid m0; have O1 := Lib.hid ho1; have W1 := Lib.hid hbw1
        clear m1 m0 ho1 hbw1 hg1 hb1 hat1
        go_wp2
        go_roundw
        case rel =>
          refine ⟨j + 1, _, by omega, by go_num, by rw [HS.out]; exact O1.out.setBelow (by show w.heap.size + 1 < w.heap.size + 2; omega) _, ?_, M0.out.far (by show w.heap.size ≠ w.heap.size + 1; omega) _, W1.out.setCell (by show w.heap.size ≤ w.heap.size + 1; omega) _, by simp [World.setCell]; omega⟩
          exact M1.out.set_ 1 _
        case measure => simp [intOf]; omega
      · rw [if_neg hq] at HS
        rw [Bool.not_eq_true] at hq
        rw [ht, hq] at hf
        clear ht hq
        go_wp2
        go_roundw
        case rel => exact ⟨j + 1, _, by omega, by go_num, by rw [HS.out, List.append_nil]; exact HO.out, HK.out, HK0.out, HBW.out, by omega⟩
        case measure => simp [intOf]; omega
    · obtain rfl : j = 61 := by omega
      have k3 := HK0.out.cell
      have k4 := HK0.out.frozen
      go_wp2
      refine bodyPost_ret (v := .agg #[.bool true, .slice A1 (trTo p 61).length c1]) (by simp [results, Try.results112, go_sem, k1, k2, k3, k4]) rfl ⟨_, rfl, ?_, ?_⟩
      · exact ((HO.out.setBelow (by show w.heap.size < w.heap.size + 2; omega) _).setBelow (by show w.heap.size < w.heap.size + 2; omega) _).mono (by omega)
      · exact (HBW.out.setCell (Nat.le_refl _) _).setCell (Nat.le_refl _) _
set_option maxRecDepth 100000 in
theorem impl_traceOf_inf (p : Nat → Bool) (w : World) (hp : p 60 = true) :
    Calls Try.prog 112 #[.int .i64 (msk p 61 : Nat)] w fun e w' => ∃ u, e = .returned (.agg #[.bool false, u]) ∧ Ow cI 2 w.heap.size w' u (trOf p) ∧ Below w.heap.size w w' := by
  have hlt := msk_lt p 61
  have hv : bits .and .i64 ((msk p 61 : Nat) / 1152921504606846976) 1 = 1 := by
    have h1 := testBit_val (msk p 61) 60 (by omega)
    rw [msk_testBit, hp] at h1
    simpa using h1
  have hr : Hid (msk (fun n => !p n) 61 = msk (fun n => p n == !p 60) 61) := by
    show _ = _
    exact msk_congr _ _ _ fun i hi => by rw [hp]; cases p i <;> rfl
  have hneg : bits .andNot .i64 2305843009213693951 (msk p 61 : Nat) = ((msk (fun n => !p n) 61 : Nat) : Int) := by
    rw [← not_msk]; exact i64_andNot_nat 2305843009213693951 _ (by decide) (by omega)
  have hlt3 := msk_lt (fun n => !p n) 61
  have hlt2 := msk_lt (fun n => p n == !p 60) 61
  have HP := Lib.hid hp; clear hp
  go_enter Try.func112, Try.ntmps112
  go_wp2
  have b0 : Blk ((w.alloc (.cells #[.bool false, .slice none 0 0] 52)).alloc (.cells #[.bool false, .slice none 0 0] 52)) w.heap.size 52 #[.bool false, .slice none 0 0] := (Blk.new w _ _).alloc _
  have b1 : Blk ((w.alloc (.cells #[.bool false, .slice none 0 0] 52)).alloc (.cells #[.bool false, .slice none 0 0] 52)) (w.heap.size + 1) 52 #[.bool false, .slice none 0 0] := Blk.new' _ _ _ (by simp)
  have hB0 : Below w.heap.size w ((w.alloc (.cells #[.bool false, .slice none 0 0] 52)).alloc (.cells #[.bool false, .slice none 0 0] 52)) := ((Below.refl _ _).alloc (Nat.le_refl _) _).alloc (by simp) _
  have hS0 : w.heap.size + 2 ≤ ((w.alloc (.cells #[.bool false, .slice none 0 0] 52)).alloc (.cells #[.bool false, .slice none 0 0] 52)).heap.size := by simp
  have B0 := Lib.hid b0
  have B1 := Lib.hid b1
  have HB0 := Lib.hid hB0
  have S0 := Lib.hid hS0
  clear b0 b1 hB0 hS0 hv hneg
  go_loopw [15] (fun i wr => ∃ (j : Nat) (lv : Value), j ≤ 61 ∧ i = .int .i64 j ∧ Ow cI 2 (w.heap.size + 2) wr lv (trTo p j) ∧ Blk wr (w.heap.size + 1) 52 #[.bool false, lv] ∧ Blk wr w.heap.size 52 #[.bool false, .slice none 0 0] ∧ Below w.heap.size w wr ∧ w.heap.size + 2 ≤ wr.heap.size) (fun i _ => 61 - (intOf i).toNat)
  case atStart => exact ⟨0, _, by omega, rfl, Ow.nil _ _, B1.out, B0.out, HB0.out, S0.out⟩
  case round =>
    obtain ⟨j, lv, hj, rfl, ho, hk, hk0, hbw, hsz⟩ := hrel
    clear B0 B1 HB0 S0
    have hlen := trTo_length p j
    obtain ⟨A1, c1, rfl⟩ := ho.opn
    have k1 := hk.cell
    have k2 := hk.frozen
    have HO := Lib.hid ho; have HK := Lib.hid hk; have HK0 := Lib.hid hk0; have HBW := Lib.hid hbw
    clear ho hk hk0 hbw
    by_cases hlt1 : j < 61
    · have HS := Lib.hid (trTo_succ p j)
      have hf := testBit_form (msk (fun n => !p n) 61) j (by omega)
      have ht : (msk (fun n => !p n) 61).testBit j = (p j == !p 60) := by rw [show msk (fun n => !p n) 61 = msk (fun n => p n == !p 60) 61 from hr.out]; rw [msk_testBit, decide_eq_true hlt1, Bool.true_and]
      by_cases hq : (p j == !p 60) = true
      · rw [hq, if_pos rfl] at HS
        rw [ht, hq] at hf
        clear ht hq
        go_wp2_with (at_builtin; refine stopHere ?_)
        refine goHere ?_
        refine ap_one (K := cI) _ ty_int64 rfl _ _ rfl (xs := trTo p j) rfl HO.out j rfl rfl (by omega) (by omega) ?_
        intro v1 w1 ho1 hg1 hb1 hat1
        have m1 := (HK.out.alloc (.cells #[.int .i64 j] 2)).grown hg1 (HO.out.apart (.inl (by omega)))
        have m0 := (HK0.out.alloc (.cells #[.int .i64 j] 2)).grown hg1 (HO.out.apart (.inl (by omega)))
        have hbw1 : Below w.heap.size w w1 := HBW.out.trans (hb1.mono (by omega))
        have hsz1 := hb1.size
        obtain ⟨A2, c2, rfl⟩ := ho1.opn
        have el : (trTo p j ++ [(j : Int)]).length = (trTo p j).length + 1 := by simp
        rw [el] at ho1 ⊢
        clear k1 k2 el
        have k1 := m1.cell
        have k2 := m1.frozen
        have M1 := Lib.hid m1; have M0 := Lib.hid m0; have O1 := Lib.hid ho1; have W1 := Lib.hid hbw1
        clear m1 m0 ho1 hbw1 hg1 hb1 hat1
        go_wp2
        go_roundw
        case rel =>
          refine ⟨j + 1, _, by omega, by go_num, by rw [HS.out]; exact O1.out.setBelow (by show w.heap.size + 1 < w.heap.size + 2; omega) _, ?_, M0.out.far (by show w.heap.size ≠ w.heap.size + 1; omega) _, W1.out.setCell (by show w.heap.size ≤ w.heap.size + 1; omega) _, by simp [World.setCell]; omega⟩
          exact M1.out.set_ 1 _
        case measure => simp [intOf]; omega
      · rw [if_neg hq] at HS
        rw [Bool.not_eq_true] at hq
        rw [ht, hq] at hf
        clear ht hq
        go_wp2
        go_roundw
        case rel => exact ⟨j + 1, _, by omega, by go_num, by rw [HS.out, List.append_nil]; exact HO.out, HK.out, HK0.out, HBW.out, by omega⟩
        case measure => simp [intOf]; omega
    · obtain rfl : j = 61 := by omega
      have k3 := HK0.out.cell
      have k4 := HK0.out.frozen
      go_wp2
      refine bodyPost_ret (v := .agg #[.bool false, .slice A1 (trTo p 61).length c1]) (by simp [results, Try.results112, go_sem, k1, k2, k3, k4]) rfl ⟨_, rfl, ?_, ?_⟩
      · exact ((HO.out.setBelow (by show w.heap.size < w.heap.size + 2; omega) _).setBelow (by show w.heap.size < w.heap.size + 2; omega) _).mono (by omega)
      · exact (HBW.out.setCell (Nat.le_refl _) _).setCell (Nat.le_refl _) _
theorem impl_traceOf (p : Nat → Bool) (w : World) :
    Calls Try.prog 112 #[.int .i64 (msk p 61 : Nat)] w fun e w' => ∃ u, e = .returned (.agg #[.bool (!p 60), u]) ∧ Ow cI 2 w.heap.size w' u (trOf p) ∧ Below w.heap.size w w' := by
  cases hp : p 60
  · exact impl_traceOf_fin p w hp
  · exact impl_traceOf_inf p w hp
end Go.Proofs.Ytbejakkcdbhmaaa

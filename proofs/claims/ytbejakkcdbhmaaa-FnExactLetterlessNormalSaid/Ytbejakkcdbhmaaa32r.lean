/- Contracts of chapter 32: the ranks at which a formula is true, of the program (a mask). -/
import Derived.Test.YtbejakkcdbhmaaaM32
import Derived.Test.Ytbejakkcdbhmaaa02d
namespace Go.Proofs.Ytbejakkcdbhmaaa
open Go.RowKit
set_option linter.unusedVariables false
set_option linter.unusedSimpArgs false
theorem impl_boxRanks (s : Nat) (w : World) (hs : s < 2305843009213693952) :
    Calls Try.prog 183 #[.int .i64 s] w fun e w' => e = .returned (.int .i64 (msk (fun n => (List.range n).all s.testBit) 61 : Nat)) ∧ w = w' := by
  go_enter Try.func183, Try.ntmps183
  go_wp2
  go_loop [3, 6] (fun m i => ∃ j : Nat, j ≤ 61 ∧ i = .int .i64 j ∧ m = .int .i64 (msk (fun n => (List.range n).all s.testBit) j : Nat)) (fun _ i => 61 - (intOf i).toNat)
  case atStart => exact ⟨0, by omega, rfl, rfl⟩
  case round =>
    obtain ⟨j, hj, rfl, rfl⟩ := hrel
    by_cases hlt : j < 61
    · have h2 := two_pow_le (n := j) (by omega)
      have h3 : (0 : Int) < 2 ^ j := Int.pow_pos (by decide)
      have e1 := wrap_two_pow (n := j) (by omega)
      have h2n : 2 ^ j ≤ 4611686018427387904 := Nat.pow_le_pow_right (n := 2) (by decide) (show j ≤ 62 by omega)
      have h3n : 0 < 2 ^ j := Nat.pow_pos (by decide)
      have c1 : ((2 : Int) ^ j - 1) = ((2 ^ j - 1 : Nat) : Int) := by rw [cast_two_pow]; omega
      have e2 : (bits .and .i64 (s : Int) ((2 : Int) ^ j - 1) == (2 : Int) ^ j - 1) = (List.range j).all s.testBit := by
        rw [c1, i64_and_nat _ _ (by omega) (by omega), ← all_below, Bool.eq_iff_iff, beq_iff_eq, beq_iff_eq]
        omega
      have hm : msk (fun n => (List.range n).all s.testBit) j < 9223372036854775808 := Nat.lt_of_lt_of_le (msk_lt _ _) (Nat.le_trans h2n (by decide))
      have HS : Hid (msk (fun n => (List.range n).all s.testBit) (j + 1) = msk (fun n => (List.range n).all s.testBit) j ||| if (List.range j).all s.testBit then 2 ^ j else 0) := Lib.hid rfl
      have HC := Lib.hid c1; clear c1 h2n h3n
      by_cases ha : (List.range j).all s.testBit = true
      · rw [ha] at e2
        rw [if_pos ha] at HS
        clear ha
        have e3 : bits .or .i64 (msk (fun n => (List.range n).all s.testBit) j : Nat) ((2 : Int) ^ j) = ((msk (fun n => (List.range n).all s.testBit) j ||| 2 ^ j : Nat) : Int) := by
          rw [cast_two_pow]; exact i64_or_nat _ _ hm (two_pow_lt (by omega))
        generalize msk (fun n => (List.range n).all s.testBit) j = q at *
        go_wp2
        go_round
        case rel => exact ⟨j + 1, by omega, by go_num, by rw [HS.out]⟩
        case measure => simp [intOf]; omega
      · rw [Bool.not_eq_true] at ha
        rw [ha] at e2
        rw [ha] at HS
        clear ha
        generalize msk (fun n => (List.range n).all s.testBit) j = q at *
        go_wp2
        go_round
        case rel => exact ⟨j + 1, by omega, by go_num, by rw [HS.out]; simp⟩
        case measure => simp [intOf]; omega
    · obtain rfl : j = 61 := by omega
      go_wp2
      go_ret
      exact ⟨rfl, rfl⟩
theorem enc_un (k : UK) (a : Fm) : enc (.un k a) = (k.i, 0) :: (enc a ++ []) := by simp [enc]
theorem enc_bin (k : BK) (a b : Fm) : enc (.bin k a b) = (k.i, 0) :: (enc a ++ (enc b ++ [])) := by simp [enc]
/-- the first node of a list that is not empty -/
theorem Sl.atN0 {w : World} {A : Option Addr} {n c : Nat} {x : Nd} {xs : List Nd} (h : Sl cN w (.slice A n c) (x :: xs)) :
    ∃ b o, A = some ⟨b, o, none⟩ ∧ b < w.heap.size ∧ w.cell? ⟨b, o, none⟩ = some (.int .i64 x.1) ∧ w.cell? ⟨b, o + 1, none⟩ = some (.int .i64 x.2) := by
  obtain ⟨b, o, hA, hb, h0, h1⟩ := h.atN (k := 0) (by simp)
  exact ⟨b, o, hA, hb, by simpa using h0, by simpa using h1⟩
theorem impl_ranksOf (f : Fm) : ∀ (v : Value) (vs : Nat) (w : World) (hvs : vs < 2305843009213693952) (h : Sl cN w v (enc f)) (hl : (enc f).length ≤ 1048576),
    Calls Try.prog 111 #[v, .int .i64 vs] w fun e w' => e = .returned (.int .i64 (msk (rk f vs) 61 : Nat)) ∧ w = w' := by
  induction f with
  | var s =>
    intro v vs w hvs h hl
    obtain ⟨A, c, rfl⟩ := h.opn
    simp only [enc, List.length_cons, List.length_nil] at h ⊢
    obtain ⟨b, o, rfl, hb, hc0, hc1⟩ := h.atN0
    have E : Hid (msk (rk (.var s) vs) 61 = vs) := Lib.hid (msk_eq 61 _ (by omega) fun i hi => rfl).symm
    go_enter Try.func111, Try.ntmps111
    go_wp2
    go_ret
    exact ⟨by rw [E.out]; rfl, rfl⟩
  | fls =>
    intro v vs w hvs h hl
    obtain ⟨A, c, rfl⟩ := h.opn
    simp only [enc, List.length_cons, List.length_nil] at h ⊢
    obtain ⟨b, o, rfl, hb, hc0, hc1⟩ := h.atN0
    have E : Hid (msk (rk .fls vs) 61 = 0) := Lib.hid (msk_eq (a := 0) 61 _ (by decide) fun i hi => by simp [rk]).symm
    go_enter Try.func111, Try.ntmps111
    go_wp2
    go_ret
    exact ⟨by rw [E.out]; rfl, rfl⟩
  | un k a ih =>
    intro v vs w hvs h hl
    rw [enc_un] at h hl
    have hf := impl_first _ _ a [] w h hl
    obtain ⟨A, c, rfl⟩ := h.opn
    obtain ⟨b, o, rfl, hb, hc0, hc1⟩ := h.atN0
    have HF := Lib.hid hf; clear hf
    have hl2 : (enc a).length ≤ 1048576 := by simp at hl; omega
    have HIH := Lib.hid (fun u w hs => ih u vs w hvs hs hl2); clear ih
    have hlt := msk_lt (rk a vs) 61
    have hL0 : 0 < ((k.i, (0 : Int)) :: (enc a ++ [])).length := by simp
    clear h
    generalize ((k.i, (0 : Int)) :: (enc a ++ [])).length = L at *
    cases k with
    | box =>
      simp only [UK.i] at hc0
      have E : Hid (msk (fun n => (List.range n).all (msk (rk a vs) 61).testBit) 61 = msk (rk (.un .box a) vs) 61) := Lib.hid (msk_congr _ _ _ fun i hi => msk_all _ _ _ (by omega))
      go_enter Try.func111, Try.ntmps111
      go_wp2_with fail
      refine HF.out.mono ?_
      rintro e w1 ⟨u, rfl, hs, rfl⟩
      go_wp2_with fail
      refine (HIH.out u _ hs).mono ?_
      rintro e w1 ⟨rfl, rfl⟩
      go_wp2_with fail
      refine (impl_boxRanks _ _ (by omega)).mono ?_
      rintro e w1 ⟨rfl, rfl⟩
      rw [E.out]
      go_wp2
      go_ret
      exact ⟨rfl, rfl⟩
    | dia =>
      simp only [UK.i] at hc0
      have E1 : Hid (andnot 2305843009213693951 (msk (rk a vs) 61) = msk (fun i => !rk a vs i) 61) := Lib.hid (not_msk _)
      have E2 : Hid (msk (fun n => (List.range n).all (msk (fun i => !rk a vs i) 61).testBit) 61 = msk (fun n => (List.range n).all fun i => !rk a vs i) 61) := Lib.hid (msk_congr _ _ _ fun i hi => msk_all _ _ _ (by omega))
      have E3 : Hid (andnot 2305843009213693951 (msk (fun n => (List.range n).all fun i => !rk a vs i) 61) = msk (rk (.un .dia a) vs) 61) := by
        show _ = _
        rw [not_msk]
        exact msk_congr _ _ _ fun i hi => (any_not_all _ _).symm
      have hlt2 := msk_lt (fun i => !rk a vs i) 61
      have hlt3 := msk_lt (fun n => (List.range n).all fun i => !rk a vs i) 61
      have n1 : bits .andNot .i64 2305843009213693951 (msk (rk a vs) 61 : Nat) = ((msk (fun i => !rk a vs i) 61 : Nat) : Int) := by
        rw [← E1.out]; exact i64_andNot_nat 2305843009213693951 (msk (rk a vs) 61) (by decide) (by omega)
      have n2 : bits .andNot .i64 2305843009213693951 (msk (fun n => (List.range n).all fun i => !rk a vs i) 61 : Nat) = ((msk (rk (.un .dia a) vs) 61 : Nat) : Int) := by
        rw [← E3.out]; exact i64_andNot_nat 2305843009213693951 (msk (fun n => (List.range n).all fun i => !rk a vs i) 61) (by decide) (by omega)
      generalize msk (rk a vs) 61 = q1 at *
      generalize msk (fun i => !rk a vs i) 61 = q2 at *
      generalize msk (fun n => (List.range n).all fun i => !rk a vs i) 61 = q3 at *
      generalize msk (rk (.un .dia a) vs) 61 = q4 at *
      go_enter Try.func111, Try.ntmps111
      go_wp2_with fail
      refine HF.out.mono ?_
      rintro e w1 ⟨u, rfl, hs, rfl⟩
      go_wp2_with fail
      refine (HIH.out u _ hs).mono ?_
      rintro e w1 ⟨rfl, rfl⟩
      go_wp2_with fail
      refine (impl_boxRanks q2 _ (by omega)).mono ?_
      rintro e w1 ⟨rfl, rfl⟩
      rw [E2.out]
      go_wp2
      go_ret
      exact ⟨rfl, rfl⟩
  | bin k a b iha ihb =>
    intro v vs w hvs h hl
    rw [enc_bin] at h hl
    have hf := impl_first _ _ a _ w h hl
    have hg := impl_second _ _ a b [] w h hl
    obtain ⟨A, c, rfl⟩ := h.opn
    obtain ⟨bb, o, rfl, hb, hc0, hc1⟩ := h.atN0
    have HF := Lib.hid hf; clear hf
    have HG := Lib.hid hg; clear hg
    have hl2 : (enc a).length ≤ 1048576 := by simp at hl; omega
    have hl3 : (enc b).length ≤ 1048576 := by simp at hl; omega
    have HIA := Lib.hid (fun u w hs => iha u vs w hvs hs hl2); clear iha
    have HIB := Lib.hid (fun u w hs => ihb u vs w hvs hs hl3); clear ihb
    have hL0 : 0 < ((k.i, (0 : Int)) :: (enc a ++ (enc b ++ []))).length := by simp
    have hlt1 := msk_lt (rk a vs) 61
    have hlt2 := msk_lt (rk b vs) 61
    have hlt3 := msk_lt (fun i => !rk a vs i) 61
    clear h
    generalize ((k.i, (0 : Int)) :: (enc a ++ (enc b ++ []))).length = L at *
    have n1 : Hid (bits .and .i64 (msk (rk a vs) 61 : Nat) (msk (rk b vs) 61 : Nat) = ((msk (rk (.bin .and a b) vs) 61 : Nat) : Int)) := by
      show _ = _
      rw [i64_and_nat _ _ (by omega) (by omega), and_msk]
      rfl
    have n2 : Hid (bits .or .i64 (msk (rk a vs) 61 : Nat) (msk (rk b vs) 61 : Nat) = ((msk (rk (.bin .or a b) vs) 61 : Nat) : Int)) := by
      show _ = _
      rw [i64_or_nat _ _ (by omega) (by omega), or_msk]
      rfl
    have n3 : Hid (bits .andNot .i64 2305843009213693951 (msk (rk a vs) 61 : Nat) = ((msk (fun i => !rk a vs i) 61 : Nat) : Int)) := by
      show _ = _
      rw [← not_msk]; exact i64_andNot_nat 2305843009213693951 _ (by decide) (by omega)
    have n4 : Hid (bits .or .i64 (msk (fun i => !rk a vs i) 61 : Nat) (msk (rk b vs) 61 : Nat) = ((msk (rk (.bin .imp a b) vs) 61 : Nat) : Int)) := by
      show _ = _
      rw [i64_or_nat _ _ (by omega) (by omega), or_msk]
      rfl
    generalize msk (rk a vs) 61 = q1 at *
    generalize msk (rk b vs) 61 = q2 at *
    generalize msk (fun i => !rk a vs i) 61 = q3 at *
    cases k with
    | and =>
      simp only [BK.i] at hc0
      generalize msk (rk (.bin .and a b) vs) 61 = q4 at *
      have m1 := n1.out
      clear n1 n2 n3 n4
      go_enter Try.func111, Try.ntmps111
      go_wp2_with fail
      refine HF.out.mono ?_
      rintro e w1 ⟨u, rfl, hs, rfl⟩
      go_wp2_with fail
      refine (HIA.out u _ hs).mono ?_
      rintro e w1 ⟨rfl, rfl⟩
      go_wp2_with fail
      refine HG.out.mono ?_
      rintro e w1 ⟨u2, rfl, hs2, rfl⟩
      go_wp2_with fail
      refine (HIB.out u2 _ hs2).mono ?_
      rintro e w1 ⟨rfl, rfl⟩
      go_wp2
      go_ret
      exact ⟨rfl, rfl⟩
    | or =>
      simp only [BK.i] at hc0
      generalize msk (rk (.bin .or a b) vs) 61 = q4 at *
      have m1 := n2.out
      clear n1 n2 n3 n4
      go_enter Try.func111, Try.ntmps111
      go_wp2_with fail
      refine HF.out.mono ?_
      rintro e w1 ⟨u, rfl, hs, rfl⟩
      go_wp2_with fail
      refine (HIA.out u _ hs).mono ?_
      rintro e w1 ⟨rfl, rfl⟩
      go_wp2_with fail
      refine HG.out.mono ?_
      rintro e w1 ⟨u2, rfl, hs2, rfl⟩
      go_wp2_with fail
      refine (HIB.out u2 _ hs2).mono ?_
      rintro e w1 ⟨rfl, rfl⟩
      go_wp2
      go_ret
      exact ⟨rfl, rfl⟩
    | imp =>
      simp only [BK.i] at hc0
      generalize msk (rk (.bin .imp a b) vs) 61 = q4 at *
      have m1 := n3.out
      have m2 := n4.out
      clear n1 n2 n3 n4
      go_enter Try.func111, Try.ntmps111
      go_wp2_with fail
      refine HF.out.mono ?_
      rintro e w1 ⟨u, rfl, hs, rfl⟩
      go_wp2_with fail
      refine (HIA.out u _ hs).mono ?_
      rintro e w1 ⟨rfl, rfl⟩
      go_wp2_with fail
      refine HG.out.mono ?_
      rintro e w1 ⟨u2, rfl, hs2, rfl⟩
      go_wp2_with fail
      refine (HIB.out u2 _ hs2).mono ?_
      rintro e w1 ⟨rfl, rfl⟩
      go_wp2
      go_ret
      exact ⟨rfl, rfl⟩
end Go.Proofs.Ytbejakkcdbhmaaa

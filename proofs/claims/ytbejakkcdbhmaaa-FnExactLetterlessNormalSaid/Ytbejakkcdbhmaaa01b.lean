/- Contracts of chapter 1's functions on masks: members. -/
import Derived.Test.YtbejakkcdbhmaaaBits
namespace Go.Proofs.Ytbejakkcdbhmaaa
open Go.RowKit
set_option linter.unusedVariables false
set_option linter.unusedSimpArgs false
theorem impl_has (m i : Nat) (w : World) (hm : m < 9223372036854775808) (hi : i ≤ 63) :
    Calls Try.prog 81 #[.int .i64 m, .int .i64 i] w fun e w' => e = .returned (.bool (m.testBit i)) ∧ w = w' := by
  have E := Lib.hid (testBit_form m i hm)
  go_enter Try.func81, Try.ntmps81
  go_wp2
  go_ret
  exact ⟨by rw [← E.out]; rfl, rfl⟩
theorem impl_membersOf (m : Nat) (w : World) (hm : m < 9223372036854775808) :
    Calls Try.prog 269 #[.int .i64 m] w fun e w' => ∃ v, e = .returned v ∧ Ow cI 2 w.heap.size w' v (mems m) ∧ Below w.heap.size w w' := by
  go_enter Try.func269, Try.ntmps269
  go_wp2
  go_loopw [3, 4] (fun v i wr => ∃ j : Nat, j ≤ 63 ∧ i = .int .i64 j ∧ Ow cI 2 w.heap.size wr v (memsTo m j) ∧ Below w.heap.size w wr) (fun _ i _ => 64 - (intOf i).toNat)
  case atStart => exact ⟨0, by omega, rfl, Ow.nil _ _, Below.refl _ _⟩
  case round =>
    obtain ⟨j, hj, rfl, ho, hb⟩ := hrel
    have hlen := memsTo_length m j
    have hsz := hb.size
    by_cases hp : 0 < (m : Int) / 2 ^ j
    · have hj2 : j ≤ 62 := by
        rcases Nat.lt_or_ge 62 j with h1 | h1
        · have h2 : j = 63 := by omega
          rw [div_cast, h2] at hp
          have h3 : m / 2 ^ 63 = 0 := Nat.div_eq_of_lt (by omega)
          rw [h3] at hp
          exact absurd hp (by decide)
        · exact h1
      have HS := Lib.hid (memsTo_succ m j)
      have O := Lib.hid ho; clear ho
      have HB := Lib.hid hb; clear hb
      go_wp2_with fail
      refine (impl_has m j _ hm (by omega)).mono ?_
      rintro e w1 ⟨rfl, rfl⟩
      by_cases ht : m.testBit j = true
      · rw [ht] at HS ⊢
        clear ht
        go_wp2_with (at_builtin; refine stopHere ?_)
        refine goHere ?_
        refine ap_one (K := cI) _ ty_int64 rfl _ _ rfl (xs := memsTo m j) rfl O.out j rfl rfl (by omega) hsz ?_
        intro v1 w1 ho1 hg1 hb1 hat1
        have O1 := Lib.hid ho1
        have HB1 := Lib.hid (HB.out.trans hb1)
        clear ho1 hg1 hb1 hat1
        go_wp2
        go_roundw
        case rel => exact ⟨j + 1, by omega, by go_num, by rw [HS.out]; exact O1.out, HB1.out⟩
        case measure => simp [intOf]; omega
      · rw [Bool.not_eq_true] at ht
        rw [ht] at HS ⊢
        clear ht
        go_wp2
        go_roundw
        case rel => exact ⟨j + 1, by omega, by go_num, by rw [HS.out]; simpa using O.out, HB.out⟩
        case measure => simp [intOf]; omega
    · have he : memsTo m j = mems m := memsTo_end (by rw [div_cast] at hp; exact Nat.le_zero.1 (Int.ofNat_le.1 (Int.not_lt.1 hp))) (by omega)
      have HE := Lib.hid he; clear he
      have O := Lib.hid ho; clear ho
      have HB := Lib.hid hb; clear hb
      go_wp2
      go_ret
      exact ⟨_, rfl, by rw [← HE.out]; exact O.out, HB.out⟩
theorem spec_l01List (m : Nat) (w : World) (hm : m < 9223372036854775808) :
    Calls Try.prog 250 #[.int .i64 m] w fun e w' => ∃ v, e = .returned v ∧ Ow cI 2 w.heap.size w' v (mems m) ∧ Below w.heap.size w w' := by
  go_enter Try.func250, Try.ntmps250
  go_wp2
  go_loopw [0, 3, 4] (fun x v i wr => ∃ j : Nat, j ≤ 63 ∧ x = .int .i64 ((m / 2 ^ j : Nat) : Int) ∧ i = .int .i64 j ∧ Ow cI 2 w.heap.size wr v (memsTo m j) ∧ Below w.heap.size w wr) (fun _ _ i _ => 64 - (intOf i).toNat)
  case atStart => exact ⟨0, by omega, by simp, rfl, Ow.lit [] rfl rfl (Nat.le_refl _), (Below.refl _ _).alloc (Nat.le_refl _) _⟩
  case round =>
    obtain ⟨j, hj, rfl, rfl, ho, hb⟩ := hrel
    have hlen := memsTo_length m j
    have hsz := hb.size
    have h2 : m / 2 ^ (j + 1) = m / 2 ^ j / 2 := by rw [Nat.pow_succ, Nat.div_div_eq_div_mul]
    have H2 := Lib.hid h2; clear h2
    have h3 : m.testBit j = decide (m / 2 ^ j % 2 = 1) := Nat.testBit_eq_decide_div_mod_eq
    have h4 : m / 2 ^ 63 = 0 := Nat.div_eq_of_lt (by omega)
    have h5 : m / 2 ^ j ≤ m := Nat.div_le_self _ _
    have h6 : 0 < m / 2 ^ j → j ≤ 62 := by
      intro hp
      rcases Nat.lt_or_ge 62 j with h1 | h1
      · have h2 : j = 63 := by omega
        subst h2
        omega
      · exact h1
    have h7 : m / 2 ^ j = 0 → memsTo m j = mems m := fun h => memsTo_end h (by omega)
    have HS := Lib.hid (memsTo_succ m j)
    rw [h3] at HS
    clear h3 h4
    have H7 := Lib.hid h7; clear h7
    have H6 := Lib.hid h6; clear h6
    generalize m / 2 ^ j = q at *
    have O := Lib.hid ho; clear ho
    have HB := Lib.hid hb; clear hb
    by_cases hp : 0 < q
    · have hj2 := H6.out hp
      by_cases ht : q % 2 = 1
      · have ht' : ((q : Int) % 2 == 1) = true := by simp; omega
        rw [decide_eq_true ht] at HS
        clear ht
        go_wp2_with (at_builtin; refine stopHere ?_)
        refine goHere ?_
        refine ap_one (K := cI) _ ty_int64 rfl _ _ rfl (xs := memsTo m j) rfl O.out j rfl rfl (by omega) hsz ?_
        intro v1 w1 ho1 hg1 hb1 hat1
        have O1 := Lib.hid ho1
        have HB1 := Lib.hid (HB.out.trans hb1)
        clear ho1 hg1 hb1 hat1
        go_wp2
        go_roundw
        case rel => exact ⟨j + 1, by omega, by rw [H2.out]; rfl, by go_num, by rw [HS.out]; exact O1.out, HB1.out⟩
        case measure => simp [intOf]; omega
      · have ht' : ((q : Int) % 2 == 1) = false := by simp; omega
        rw [decide_eq_false ht] at HS
        clear ht
        go_wp2
        go_roundw
        case rel => exact ⟨j + 1, by omega, by rw [H2.out]; rfl, by go_num, by rw [HS.out]; simpa using O.out, HB.out⟩
        case measure => simp [intOf]; omega
    · have he := Lib.hid (H7.out (by omega))
      go_wp2
      go_ret
      exact ⟨_, rfl, by rw [← he.out]; exact O.out, HB.out⟩
end Go.Proofs.Ytbejakkcdbhmaaa

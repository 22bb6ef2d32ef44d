/- Small facts on bits of int64s that are not below zero. -/
import Derived.Test.Ytbejakkcdbhmaaa01
import Derived.Laws.BitsAllLaws
import Derived.Laws.BitsLemmas
namespace Go.Proofs.Ytbejakkcdbhmaaa
open Go.RowKit
set_option linter.unusedVariables false
set_option linter.unusedSimpArgs false
theorem ofInt_i64 (a : Nat) (ha : a < 9223372036854775808) : (BitVec.ofInt 64 (a : Int)).toNat = a := by
  rw [BitVec.ofInt_natCast, BitVec.toNat_ofNat]; exact Nat.mod_eq_of_lt (by omega)
theorem i64_and_nat (a b : Nat) (ha : a < 9223372036854775808) (hb : b < 9223372036854775808) : bits .and .i64 (a : Int) (b : Int) = ((a &&& b : Nat) : Int) := by
  have hx : a &&& b < 2 ^ 63 := Nat.and_lt_two_pow _ (by omega)
  show IntKind.i64.wrap ((BitVec.ofInt 64 (a : Int) &&& BitVec.ofInt 64 (b : Int)).toNat : Int) = _
  rw [BitVec.toNat_and, ofInt_i64 a ha, ofInt_i64 b hb, IntKind.wrap_i64]
  omega
theorem i64_or_nat (a b : Nat) (ha : a < 9223372036854775808) (hb : b < 9223372036854775808) : bits .or .i64 (a : Int) (b : Int) = ((a ||| b : Nat) : Int) := by
  have hx : a ||| b < 2 ^ 63 := Nat.or_lt_two_pow (by omega) (by omega)
  show IntKind.i64.wrap ((BitVec.ofInt 64 (a : Int) ||| BitVec.ofInt 64 (b : Int)).toNat : Int) = _
  rw [BitVec.toNat_or, ofInt_i64 a ha, ofInt_i64 b hb, IntKind.wrap_i64]
  omega
theorem cast_two_pow (n : Nat) : (2 : Int) ^ n = ((2 ^ n : Nat) : Int) := by rw [Int.natCast_pow]; rfl
theorem wrap_two_pow' {n : Nat} (h : n ≤ 62) : wrap64 ((2 : Int) ^ n) = ((2 ^ n : Nat) : Int) := by rw [wrap_two_pow h, cast_two_pow]
theorem two_pow_lt {n : Nat} (h : n ≤ 62) : 2 ^ n < 9223372036854775808 := Nat.lt_of_le_of_lt (Nat.pow_le_pow_right (by decide) h) (by decide)
/-- the members of a mask below j, and all of them -/
def memsTo (m j : Nat) : List Int := ((List.range j).filter m.testBit).map (fun (i : Nat) => (i : Int))
def mems (m : Nat) : List Int := memsTo m 64
theorem memsTo_succ (m j : Nat) : memsTo m (j + 1) = memsTo m j ++ if m.testBit j then [(j : Int)] else [] := by
  unfold memsTo
  rw [List.range_succ, List.filter_append, List.map_append]
  congr 1
  cases h : m.testBit j <;> simp [List.filter_cons, h]
theorem memsTo_length (m j : Nat) : (memsTo m j).length ≤ j := by
  unfold memsTo
  rw [List.length_map]
  exact Nat.le_trans (List.length_filter_le _ _) (by simp)
theorem testBit_out {m j i : Nat} (h : m / 2 ^ j = 0) (hi : j ≤ i) : m.testBit i = false := by
  have h1 : m < 2 ^ j := by
    rcases Nat.lt_or_ge m (2 ^ j) with h1 | h1
    · exact h1
    · have := Nat.div_pos h1 (Nat.pow_pos (by decide)); omega
  exact Nat.testBit_lt_two_pow (Nat.lt_of_lt_of_le h1 (Nat.pow_le_pow_right (by decide) hi))
theorem memsTo_end {m j : Nat} (h : m / 2 ^ j = 0) (hj : j ≤ 64) : memsTo m j = mems m := by
  unfold mems
  obtain ⟨d, hd⟩ : ∃ d, 64 = j + d := ⟨64 - j, by omega⟩
  rw [hd]
  clear hd hj
  induction d with
  | zero => rfl
  | succ d ih => rw [← Nat.add_assoc, memsTo_succ, ← ih, testBit_out h (by omega)]; simp
theorem mems_nil (m : Nat) (h : m < 18446744073709551616) : mems m = [] ↔ m = 0 := by
  constructor
  · intro h1
    apply Nat.eq_of_testBit_eq
    intro i
    rw [Nat.zero_testBit]
    by_cases hi : i < 64
    · have : i ∉ (List.range 64).filter m.testBit := by
        intro hm
        have : (i : Int) ∈ mems m := List.mem_map.2 ⟨i, hm, rfl⟩
        rw [h1] at this
        cases this
      simp [hi] at this
      exact this
    · exact Nat.testBit_lt_two_pow (Nat.lt_of_lt_of_le h (by
        have := Nat.pow_le_pow_right (n := 2) (by decide) (show 64 ≤ i by omega)
        simpa using this))
  · rintro rfl
    simp [mems, memsTo]
theorem div_cast (m j : Nat) : (m : Int) / 2 ^ j = ((m / 2 ^ j : Nat) : Int) := by rw [cast_two_pow]; exact (Int.natCast_ediv _ _).symm
theorem testBit_form (m i : Nat) (hm : m < 9223372036854775808) : (bits .and .i64 ((m : Int) / 2 ^ i) 1 == 1) = m.testBit i := by
  have h := i64_and_nat (m / 2 ^ i) 1 (Nat.lt_of_le_of_lt (Nat.div_le_self _ _) hm) (by decide)
  rw [div_cast]
  have h2 : ((1 : Nat) : Int) = 1 := rfl
  rw [h2] at h
  rw [h, Nat.and_one_is_mod, Nat.testBit_eq_decide_div_mod_eq, Bool.eq_iff_iff, beq_iff_eq, decide_eq_true_eq]
  omega
end Go.Proofs.Ytbejakkcdbhmaaa

/- Contracts of math/bits.Mul at small numbers, and of slices.Repeat at one node. -/
import Derived.Test.Ytbejakkcdbhmaaa32x
import Derived.Test.YtbejakkcdbhmaaaBits
namespace Go.Proofs.Ytbejakkcdbhmaaa
open Go.RowKit
set_option linter.unusedVariables false
set_option linter.unusedSimpArgs false
theorem u64_and_nat (a b : Nat) (ha : a < 9223372036854775808) (hb : b < 9223372036854775808) : bits .and .u64 (a : Int) (b : Int) = ((a &&& b : Nat) : Int) := by
  have hx : a &&& b < 2 ^ 63 := Nat.and_lt_two_pow _ (by omega)
  show IntKind.u64.wrap ((BitVec.ofInt 64 (a : Int) &&& BitVec.ofInt 64 (b : Int)).toNat : Int) = _
  rw [BitVec.toNat_and, ofInt_i64 a ha, ofInt_i64 b hb]
  exact IntWalk.u64_in _ ⟨by omega, by omega⟩
theorem u64_low (n : Nat) (hn : n ≤ 1048576) : bits .and .u64 (n : Int) 4294967295 = n := by
  have h := u64_and_nat n 4294967295 (by omega) (by omega)
  have h2 : n &&& 4294967295 = n := by
    have := Nat.and_two_pow_sub_one_eq_mod n 32
    rw [show (4294967295 : Nat) = 2 ^ 32 - 1 by decide, this]
    exact Nat.mod_eq_of_lt (by omega)
  rw [h2] at h
  exact h
theorem bits_Mul64 (n : Nat) (w : World) (hn : n ≤ 1048576) :
    Calls Try.prog 304 #[.int .u64 1, .int .u64 n] w fun e w' => e = .returned (.tuple #[.int .u64 0, .int .u64 n]) ∧ w = w' := by
  have m1 : bits .and .u64 1 4294967295 = 1 := u64_low 1 (by omega)
  have m2 := u64_low n hn
  have m3 : (n : Int) / 4294967296 = 0 := by omega
  have m4 := IntWalk.u64_in (n : Int) ⟨by omega, by omega⟩
  have m5 : bits .and .u64 0 4294967295 = 0 := u64_low 0 (by omega)
  go_enter Try.func304, Try.ntmps304
  go_wp2
  go_ret2
  exact ⟨by first | rfl | simp [m1, m2, m3, m4, m5], rfl⟩
theorem bits_Mul (n : Nat) (w : World) (hn : n ≤ 1048576) :
    Calls Try.prog 298 #[.int .u64 1, .int .u64 n] w fun e w' => e = .returned (.tuple #[.int .u64 0, .int .u64 n]) ∧ w = w' := by
  go_enter Try.func298, Try.ntmps298
  go_wp2_with fail
  refine (bits_Mul64 n _ hn).mono ?_
  rintro e w1 ⟨rfl, rfl⟩
  go_wp2
  go_ret2
  exact ⟨rfl, rfl⟩
end Go.Proofs.Ytbejakkcdbhmaaa

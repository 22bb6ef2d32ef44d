/- Contracts of the small functions of chapter 1, of the program and of the reference. -/
import Derived.Test.YtbejakkcdbhmaaaLI
import Derived.Test.YtbejakkcdbhmaaaM02
namespace Go.Proofs.Ytbejakkcdbhmaaa
open Go.RowKit
set_option linter.unusedVariables false
set_option linter.unusedSimpArgs false
theorem impl_inRange (x l h : Int) (w : World) :
    Calls Try.prog 145 #[.int .i64 x, .int .i64 l, .int .i64 h] w fun e w' => e = .returned (.bool (inR x l h)) ∧ w = w' := by
  by_cases h1 : l ≤ x <;> by_cases h2 : x ≤ h
  all_goals
    go_enter Try.func145, Try.ntmps145
    go_wp2
    go_ret
    exact ⟨by simp [inR, h1, h2], rfl⟩
theorem spec_l01In (x l h : Int) (w : World) :
    Calls Try.prog 69 #[.int .i64 x, .int .i64 l, .int .i64 h] w fun e w' => e = .returned (.bool (inR x l h)) ∧ w = w' := by
  by_cases h1 : l ≤ x <;> by_cases h2 : x ≤ h
  all_goals
    go_enter Try.func69, Try.ntmps69
    go_wp2
    go_ret
    exact ⟨by simp [inR, h1, h2], rfl⟩
theorem impl_size_int64 (v : Value) (xs : List Int) (w : World) (h : Sl cI w v xs) :
    Calls Try.prog 272 #[v] w fun e w' => e = .returned (.int .i64 xs.length) ∧ w = w' := by
  obtain ⟨A, c, rfl, hc, hm, hr⟩ := h
  go_enter Try.func272, Try.ntmps272
  go_wp2
  go_ret
  exact ⟨rfl, rfl⟩
/-- powers of two, to 62 -/
theorem two_pow_le {n : Nat} (h : n ≤ 62) : (2 : Int) ^ n ≤ 4611686018427387904 := by
  have h1 : (2 : Nat) ^ n ≤ 2 ^ 62 := Nat.pow_le_pow_right (by decide) h
  have h2 : (2 : Int) ^ n = ((2 ^ n : Nat) : Int) := by rw [Int.natCast_pow]; rfl
  rw [h2]
  have h3 : (2 : Nat) ^ 62 = 4611686018427387904 := by decide
  omega
theorem wrap_two_pow {n : Nat} (h : n ≤ 62) : wrap64 ((2 : Int) ^ n) = 2 ^ n := by
  have h1 := two_pow_le h
  have h2 : (0 : Int) < 2 ^ n := Int.pow_pos (by decide)
  exact IntWalk.wrap64_in _ ⟨by omega, by omega⟩
theorem spec_l01One (x : Int) (w : World) (h0 : 0 ≤ x) (h1 : x ≤ 62) :
    Calls Try.prog 152 #[.int .i64 x] w fun e w' => e = .returned (.int .i64 (2 ^ x.toNat)) ∧ w = w' := by
  go_enter Try.func152, Try.ntmps152
  go_wp2
  go_ret
  exact ⟨by rw [wrap_two_pow (n := x.toNat) (by omega)]; rfl, rfl⟩
theorem spec_l01Full (x : Int) (w : World) (h0 : 0 ≤ x) (h1 : x ≤ 62) :
    Calls Try.prog 93 #[.int .i64 x] w fun e w' => e = .returned (.int .i64 (2 ^ x.toNat - 1)) ∧ w = w' := by
  have h2 := two_pow_le (n := x.toNat) (by omega)
  have h3 : (0 : Int) < 2 ^ x.toNat := Int.pow_pos (by decide)
  go_enter Try.func93, Try.ntmps93
  go_wp2_with fail
  refine (spec_l01One _ _ (by omega) (by omega)).mono ?_
  rintro e w1 ⟨rfl, rfl⟩
  go_wp2
  go_ret
  exact ⟨rfl, rfl⟩
end Go.Proofs.Ytbejakkcdbhmaaa

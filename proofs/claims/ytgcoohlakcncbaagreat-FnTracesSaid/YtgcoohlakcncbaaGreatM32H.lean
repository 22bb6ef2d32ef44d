/- Plain law for FnTraces: truth sets on the chain of eight worlds are the ranks; what traces say. No program in sight. -/
import Derived.Test.YtgcoohlakcncbaaGreatFA
import Derived.Test.YtgcoohlakcncbaaGreatMK
namespace Go.Proofs.YtgcoohlakcncbaaGreat
open Go.RowKit
set_option linter.unusedVariables false
def chN : List Nat := [0, 1, 3, 7, 15, 31, 63, 127]
def usZ : List Nat := [0, 0, 0, 0, 0, 0]
theorem chN_at : ∀ n, n < 8 → chN.getD n 0 = 2 ^ n - 1 := by decide
theorem andnot_full (a n : Nat) (hn : n < 8) : (andnot (2 ^ chN.length - 1) a).testBit n = !a.testBit n := by
  rw [andnot_testBit, Nat.testBit_two_pow_sub_one, decide_eq_true (show n < chN.length from hn), Bool.true_and]
theorem bx_chain (m n : Nat) (hn : n < 8) : (bx chN m).testBit n = (List.range n).all m.testBit := by
  unfold bx
  rw [msk_testBit, decide_eq_true (show n < chN.length from hn), Bool.true_and, chN_at n hn, ← all_below m n]
  rw [Bool.eq_iff_iff, decide_eq_true_iff, beq_iff_eq, ← and_eq_iff, Nat.and_comm]
theorem tv_chain : ∀ (f : Fm), f.novar = true → ∀ n, n < 8 → (tv chN usZ f).testBit n = rk f 0 n := by
  intro f
  induction f with
  | var t => intro h; cases h
  | fls => intro _ n _; simp [tv, rk]
  | bin k a b iha ihb =>
    intro hv n hn
    simp only [Fm.novar, Bool.and_eq_true] at hv
    have h1 := iha hv.1 n hn
    have h2 := ihb hv.2 n hn
    cases k
    · simp only [tv, rk, Nat.testBit_and, h1, h2]
    · simp only [tv, rk, Nat.testBit_or, h1, h2]
    · simp only [tv, rk, Nat.testBit_or, andnot_full _ n hn, h1, h2]
  | un k a ih =>
    intro hv n hn
    have h1 := ih hv
    have e : ∀ (p q : Nat → Bool), (∀ j, j < n → p j = q j) → (List.range n).all p = (List.range n).all q := fun p q h => by
      rw [Bool.eq_iff_iff, List.all_eq_true, List.all_eq_true]
      exact ⟨fun r j hj => (h j (List.mem_range.1 hj)) ▸ r j hj, fun r j hj => (h j (List.mem_range.1 hj)).symm ▸ r j hj⟩
    cases k
    · simp only [tv, rk]
      rw [bx_chain _ n hn]
      exact e _ _ fun j hj => h1 j (by omega)
    · simp only [tv, rk]
      rw [andnot_full _ n hn, bx_chain _ n hn, e _ (fun j => !rk a 0 j) fun j hj => by rw [andnot_full _ j (by omega), h1 j (by omega)]]
      rw [Bool.eq_iff_iff, Bool.not_eq_true', ← Bool.not_eq_true, List.all_eq_true, List.any_eq_true]
      constructor
      · intro h
        refine Classical.byContradiction fun hn2 => h fun j hj => ?_
        cases hr : rk a 0 j with
        | false => rfl
        | true => exact absurd ⟨j, hj, hr⟩ hn2
      · rintro ⟨j, hj, hr⟩ h
        have := h j hj
        rw [hr] at this
        cases this
/-- a rank in a trace, or not -/
theorem tr_in (p : Nat → Bool) {n : Nat} (hn : n < 61) : (decide ((n : Int) ∈ trOf p) == (!p 60)) = p n := by
  have e : decide ((n : Int) ∈ trOf p) = (p n == !p 60) := by
    rw [Bool.eq_iff_iff, decide_eq_true_iff, trOf_in]
    exact ⟨fun h => h.2, fun h => ⟨hn, h⟩⟩
  rw [e]
  cases p n <;> cases p 60 <;> rfl
/-- no rank in a trace: the formula is alike everywhere -/
theorem tr_nil (p : Nat → Bool) : (trOf p).length = 0 ↔ ∀ n, n < 61 → p n = p 60 := by
  rw [List.length_eq_zero_iff]
  constructor
  · intro h n hn
    have h1 := tr_in p hn
    rw [h] at h1
    simp at h1
    exact h1.symm
  · intro h
    refine List.eq_nil_iff_forall_not_mem.2 fun x hx => ?_
    obtain ⟨k, rfl⟩ := Int.eq_ofNat_of_zero_le (trOf_nat hx)
    have := (trOf_in p k).1 hx
    rw [h k this.1] at this
    cases hp : p 60 <;> rw [hp] at this <;> simp at this
end Go.Proofs.YtgcoohlakcncbaaGreat

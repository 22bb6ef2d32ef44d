/- Plain words of chapter 32: the ranks at which a formula is true, as masks and as rows. No program in sight. -/
import Derived.Test.YtbejakkcdbhmaaaBits
namespace Go.Proofs.Ytbejakkcdbhmaaa
open Go.RowKit
set_option linter.unusedVariables false
set_option linter.unusedSimpArgs false
/-- the mask of the numbers below k that p lets -/
def msk (p : Nat → Bool) : Nat → Nat
  | 0 => 0
  | k + 1 => msk p k ||| if p k then 2 ^ k else 0
theorem msk_testBit (p : Nat → Bool) (k i : Nat) : (msk p k).testBit i = (decide (i < k) && p i) := by
  induction k with
  | zero => simp [msk]
  | succ k ih =>
    rw [msk, Nat.testBit_or, ih]
    by_cases h : p k = true
    · rw [if_pos h, Nat.testBit_two_pow]
      by_cases hi : i = k
      · subst hi; simp [h]
      · rw [decide_eq_false (show ¬ k = i from fun e => hi e.symm), Bool.or_false]
        congr 1
        rw [Bool.eq_iff_iff, decide_eq_true_eq, decide_eq_true_eq]
        omega
    · rw [if_neg h, Nat.zero_testBit, Bool.or_false]
      rw [Bool.not_eq_true] at h
      by_cases hi : i = k
      · subst hi; simp [h]
      · congr 1
        rw [Bool.eq_iff_iff, decide_eq_true_eq, decide_eq_true_eq]
        omega
theorem msk_lt (p : Nat → Bool) (k : Nat) : msk p k < 2 ^ k := by
  induction k with
  | zero => simp [msk]
  | succ k ih =>
    rw [msk]
    have h1 : msk p k < 2 ^ (k + 1) := Nat.lt_of_lt_of_le ih (Nat.pow_le_pow_right (by decide) (by omega))
    refine Nat.or_lt_two_pow h1 ?_
    split
    · exact Nat.pow_lt_pow_right (by decide) (by omega)
    · exact Nat.pow_pos (by decide)
theorem msk_ext {a b : Nat} (k : Nat) (ha : a < 2 ^ k) (hb : b < 2 ^ k) (h : ∀ i, i < k → a.testBit i = b.testBit i) : a = b := by
  apply Nat.eq_of_testBit_eq
  intro i
  by_cases hi : i < k
  · exact h i hi
  · rw [Nat.testBit_lt_two_pow (Nat.lt_of_lt_of_le ha (Nat.pow_le_pow_right (by decide) (by omega))), Nat.testBit_lt_two_pow (Nat.lt_of_lt_of_le hb (Nat.pow_le_pow_right (by decide) (by omega)))]
theorem msk_congr (p q : Nat → Bool) (k : Nat) (h : ∀ i, i < k → p i = q i) : msk p k = msk q k :=
  msk_ext k (msk_lt _ _) (msk_lt _ _) fun i hi => by rw [msk_testBit, msk_testBit, h i hi]
theorem msk_eq {a : Nat} (k : Nat) (p : Nat → Bool) (ha : a < 2 ^ k) (h : ∀ i, i < k → a.testBit i = p i) : a = msk p k :=
  msk_ext k ha (msk_lt _ _) fun i hi => by rw [msk_testBit, h i hi, decide_eq_true hi, Bool.true_and]
theorem and_msk (p q : Nat → Bool) (k : Nat) : msk p k &&& msk q k = msk (fun i => p i && q i) k :=
  msk_eq k _ (Nat.and_lt_two_pow _ (msk_lt _ _)) fun i hi => by rw [Nat.testBit_and, msk_testBit, msk_testBit, decide_eq_true hi, Bool.true_and, Bool.true_and]
theorem or_msk (p q : Nat → Bool) (k : Nat) : msk p k ||| msk q k = msk (fun i => p i || q i) k :=
  msk_eq k _ (Nat.or_lt_two_pow (msk_lt _ _) (msk_lt _ _)) fun i hi => by rw [Nat.testBit_or, msk_testBit, msk_testBit, decide_eq_true hi, Bool.true_and, Bool.true_and]
/-- a without b -/
def andnot (a b : Nat) : Nat := a ^^^ (a &&& b)
theorem andnot_testBit (a b i : Nat) : (andnot a b).testBit i = (a.testBit i && !b.testBit i) := by
  rw [andnot, Nat.testBit_xor, Nat.testBit_and]
  cases a.testBit i <;> cases b.testBit i <;> rfl
theorem all_testBit (i : Nat) (h : i < 61) : Nat.testBit 2305843009213693951 i = true := by
  have : (2305843009213693951 : Nat) = 2 ^ 61 - 1 := by decide
  rw [this, Nat.testBit_two_pow_sub_one, decide_eq_true h]
theorem not_msk (p : Nat → Bool) : andnot 2305843009213693951 (msk p 61) = msk (fun i => !p i) 61 :=
  msk_eq 61 _ (by
      rw [andnot]
      exact Nat.xor_lt_two_pow (by decide) (Nat.and_lt_two_pow _ (msk_lt _ _)))
    fun i hi => by rw [andnot_testBit, all_testBit i hi, msk_testBit, decide_eq_true hi, Bool.true_and, Bool.true_and]

/-- the ranks at which a formula is true, if its variables are true at the ranks of a mask -/
def rk : Fm → Nat → Nat → Bool
  | .var _, vs, n => vs.testBit n
  | .fls, _, _ => false
  | .bin .and a b, vs, n => rk a vs n && rk b vs n
  | .bin .or a b, vs, n => rk a vs n || rk b vs n
  | .bin .imp a b, vs, n => !rk a vs n || rk b vs n
  | .un .box a, vs, n => (List.range n).all (rk a vs)
  | .un .dia a, vs, n => (List.range n).any (rk a vs)
theorem all_below (s n : Nat) : ((s &&& (2 ^ n - 1)) == 2 ^ n - 1) = (List.range n).all s.testBit := by
  rw [Bool.eq_iff_iff, beq_iff_eq, List.all_eq_true]
  constructor
  · intro h i hi
    have := congrArg (fun m => m.testBit i) h
    simp only [Nat.testBit_and, Nat.testBit_two_pow_sub_one] at this
    rw [decide_eq_true (List.mem_range.1 hi), Bool.and_true] at this
    exact this
  · intro h
    apply Nat.eq_of_testBit_eq
    intro i
    rw [Nat.testBit_and, Nat.testBit_two_pow_sub_one]
    by_cases hi : i < n
    · rw [h i (List.mem_range.2 hi)]; rfl
    · rw [decide_eq_false hi, Bool.and_false]
theorem any_not_all (p : Nat → Bool) (n : Nat) : (List.range n).any p = !(List.range n).all fun i => !p i := by
  rw [Bool.eq_iff_iff]
  simp
theorem msk_all (p : Nat → Bool) (k n : Nat) (h : n ≤ k) : (List.range n).all (msk p k).testBit = (List.range n).all p := by
  rw [Bool.eq_iff_iff, List.all_eq_true, List.all_eq_true]
  constructor
  · intro h1 i hi
    have := h1 i hi
    rw [msk_testBit] at this
    simp at this
    exact this.2
  · intro h1 i hi
    rw [msk_testBit, h1 i hi]
    have := List.mem_range.1 hi
    simp
    omega
theorem i64_andNot_nat (a b : Nat) (ha : a < 9223372036854775808) (hb : b < 9223372036854775808) : bits .andNot .i64 (a : Int) (b : Int) = ((andnot a b : Nat) : Int) := by
  have hx : andnot a b < 2 ^ 63 := by
    rw [andnot]
    exact Nat.xor_lt_two_pow (by omega) (Nat.and_lt_two_pow _ (by omega))
  show IntKind.i64.wrap ((BitVec.ofInt 64 (a : Int) &&& ~~~ BitVec.ofInt 64 (b : Int)).toNat : Int) = _
  have h1 : (BitVec.ofInt 64 (a : Int) &&& ~~~ BitVec.ofInt 64 (b : Int)).toNat = andnot a b := by
    apply Nat.eq_of_testBit_eq
    intro i
    rw [andnot_testBit, BitVec.toNat_and, Nat.testBit_and, ofInt_i64 a ha]
    by_cases hi : i < 64
    · congr 1
      rw [BitVec.testBit_toNat, BitVec.getLsbD_not, decide_eq_true hi, Bool.true_and, ← BitVec.testBit_toNat, ofInt_i64 b hb]
    · rw [Nat.testBit_lt_two_pow (Nat.lt_of_lt_of_le ha (by
        have := Nat.pow_le_pow_right (n := 2) (by decide) (show 63 ≤ i by omega)
        simpa using this))]
      rfl
  rw [h1, IntKind.wrap_i64]
  omega
end Go.Proofs.Ytbejakkcdbhmaaa

/- Joined of several texts: 32n, 32o, 32p, 32q, 32u. -/
import Derived.Test.YtaigiopoogbbbaaGreatY05
namespace Go.Proofs.YtaigiopoogbbbaaGreat
open Go.RowKit
set_option linter.unusedVariables false
set_option linter.unusedSimpArgs false
/- Contracts of chapter 32: the Trace of a row and of a mask. -/
/-- the ranks below k of a Trace whose truth values are p -/
def trTo (p : Nat → Bool) (k : Nat) : List Int := ((List.range k).filter fun n => p n == !p 60).map fun (n : Nat) => (n : Int)
def trOf (p : Nat → Bool) : List Int := trTo p 61
theorem trTo_succ (p : Nat → Bool) (k : Nat) : trTo p (k + 1) = trTo p k ++ if (p k == !p 60) = true then [(k : Int)] else [] := by
  unfold trTo
  rw [List.range_succ, List.filter_append, List.map_append]
  congr 1
  cases h : (p k == !p 60) <;> simp [h]
theorem trTo_length (p : Nat → Bool) (k : Nat) : (trTo p k).length ≤ k := by
  unfold trTo
  rw [List.length_map]
  exact Nat.le_trans (List.length_filter_le _ _) (by simp)
/- Contracts of chapter 32: the Trace of a mask, of the program. -/
theorem testBit_val (m i : Nat) (hm : m < 9223372036854775808) : bits .and .i64 ((m : Int) / 2 ^ i) 1 = if m.testBit i then 1 else 0 := by
  have h := i64_and_nat (m / 2 ^ i) 1 (Nat.lt_of_le_of_lt (Nat.div_le_self _ _) hm) (by decide)
  rw [div_cast]
  have h2 : ((1 : Nat) : Int) = 1 := rfl
  rw [h2] at h
  rw [h, Nat.and_one_is_mod, Nat.testBit_eq_decide_div_mod_eq]
  have := Nat.mod_lt (m / 2 ^ i) (show 0 < 2 by decide)
  by_cases hq : m / 2 ^ i % 2 = 1
  · rw [hq]; simp
  · rw [show m / 2 ^ i % 2 = 0 by omega]; simp
/- Contracts of TraceOf, of the program and of the reference. -/
theorem row_map (f : Fm) : row f = (List.range 61).map (rk f 0) := rfl
/- Contracts of IsLetterlessTheorem, IsTrueSentence, FirstFalseRank and AreLetterlessEqual, of the program and of the reference. -/
/-- is it true at all ranks? -/
def allR (p : Nat → Bool) : Bool := (List.range 61).all p
theorem allR_msk (p : Nat → Bool) : (((msk p 61 : Nat) : Int) == 2305843009213693951) = allR p := by
  have h1 : allR p = true ↔ msk p 61 = 2305843009213693951 := by
    rw [allR, List.all_eq_true]
    constructor
    · intro h
      refine msk_ext 61 (msk_lt _ _) (by decide) fun i hi => ?_
      rw [msk_testBit, all_testBit i hi, h i (List.mem_range.2 hi), decide_eq_true hi]
      rfl
    · intro h i hi
      have hi' := List.mem_range.1 hi
      have := all_testBit i hi'
      rw [← h, msk_testBit] at this
      simp at this
      exact this.2
  rw [Bool.eq_iff_iff, beq_iff_eq, h1]
  omega
theorem allR_tr (p : Nat → Bool) : (!(!p 60) && decide ((trOf p).length = 0)) = allR p := by
  rw [Bool.eq_iff_iff, allR, List.all_eq_true]
  have hl : (trOf p).length = 0 ↔ ∀ n < 61, (p n == !p 60) = false := by
    unfold trOf trTo
    rw [List.length_map]
    constructor
    · intro h n hn
      have h2 := List.eq_nil_of_length_eq_zero h
      rw [List.filter_eq_nil_iff] at h2
      have := h2 n (List.mem_range.2 hn)
      simpa using this
    · intro h
      rw [List.filter_eq_nil_iff.2 (fun n hn => by rw [h n (List.mem_range.1 hn)]; simp)]
      rfl
  simp only [Bool.not_not, Bool.and_eq_true, decide_eq_true_eq, hl]
  constructor
  · rintro ⟨h1, h2⟩ n hn
    have := h2 n (List.mem_range.1 hn)
    rw [h1] at this
    cases hp : p n
    · rw [hp] at this; simp at this
    · rfl
  · intro h
    have h60 := h 60 (by simp)
    refine ⟨h60, fun n hn => ?_⟩
    rw [h60, h n (List.mem_range.2 hn)]
    rfl
/-- are two formulas true at the same ranks? -/
def alike (p q : Nat → Bool) : Bool := (List.range 61).all fun n => p n == q n
theorem alike_iff (p q : Nat → Bool) : alike p q = true ↔ ∀ n < 61, p n = q n := by
  unfold alike
  rw [List.all_eq_true]
  constructor
  · intro h n hn; simpa using h n (List.mem_range.2 hn)
  · intro h n hn; simpa using h n (List.mem_range.1 hn)
theorem alike_msk (p q : Nat → Bool) : (((msk p 61 : Nat) : Int) == (msk q 61 : Nat)) = alike p q := by
  rw [Bool.eq_iff_iff, beq_iff_eq, alike_iff]
  constructor
  · intro h n hn
    have h1 : msk p 61 = msk q 61 := by omega
    have := congrArg (fun m => m.testBit n) h1
    simpa [msk_testBit, hn] using this
  · intro h
    rw [msk_congr p q 61 h]
/-- the first rank that does not belong to a Trace, or -1 -/
def ffL : List Int → Int → Int
  | [], i => i
  | x :: t, i => if x = i then ffL t (i + 1) else i
def ffT (fin : Bool) (xs : List Int) : Int := if fin then ffL xs 0 else xs.headD (-1)
def ffI (p : Nat → Bool) : Int := match (List.range 61).find? fun n => !p n with | some n => (n : Int) | none => -1
theorem ffL_range (p : Nat → Bool) (m : Nat) : ∀ k : Nat, ffL (((List.range' k m).filter p).map fun (n : Nat) => (n : Int)) k = match (List.range' k m).find? fun n => !p n with | some n => (n : Int) | none => ((k + m : Nat) : Int) := by
  induction m with
  | zero => intro k; simp [ffL]
  | succ m ih =>
    intro k
    rw [List.range'_succ, List.filter_cons, List.find?_cons]
    cases hp : p k
    · simp only [Bool.false_eq_true, if_false, Bool.not_false]
      cases hf : (List.range' (k + 1) m).filter p with
      | nil => rfl
      | cons x t =>
        have hx : x ∈ (List.range' (k + 1) m).filter p := by rw [hf]; exact List.mem_cons_self
        have := (List.mem_range'_1.1 (List.mem_filter.1 hx).1).1
        simp only [List.map_cons, ffL]
        rw [if_neg (by omega)]
    · simp only [if_true, List.map_cons, ffL, Bool.not_true]
      have := ih (k + 1)
      rw [show ((k : Int) + 1) = ((k + 1 : Nat) : Int) from by omega, this]
      cases (List.range' (k + 1) m).find? fun n => !p n with
      | none => simp; omega
      | some n => rfl
theorem ff_tr (p : Nat → Bool) : ffT (!p 60) (trOf p) = ffI p := by
  unfold ffT ffI trOf trTo
  cases hp : p 60
  · simp only [Bool.not_false, if_true]
    have h1 := ffL_range p 61 0
    rw [← List.range_eq_range'] at h1
    have e : ((List.range 61).filter fun n => p n == true) = (List.range 61).filter p := by congr 1; funext n; cases p n <;> rfl
    rw [e]
    rw [show ((0 : Nat) : Int) = 0 from rfl] at h1
    rw [h1]
    cases hf : (List.range 61).find? fun n => !p n with
    | some n => rfl
    | none =>
      rw [List.find?_eq_none] at hf
      have := hf 60 (by simp)
      rw [hp] at this
      simp at this
  · simp only [Bool.not_true, Bool.false_eq_true, if_false]
    have e : ((List.range 61).filter fun n => p n == false) = (List.range 61).filter fun n => !p n := by congr 1; funext n; cases p n <;> rfl
    rw [e]
    have h1 : ((List.range 61).filter fun n => !p n).head? = (List.range 61).find? fun n => !p n := List.head?_filter
    cases hf : (List.range 61).filter fun n => !p n with
    | nil => rw [hf] at h1; simp at h1; rw [← h1]; rfl
    | cons x t => rw [hf] at h1; simp only [List.head?_cons] at h1; rw [← h1]; rfl
theorem ffI_range (p : Nat → Bool) : -1 ≤ ffI p ∧ ffI p ≤ 60 := by
  unfold ffI
  cases hf : (List.range 61).find? fun n => !p n with
  | none => simp
  | some n =>
    have := List.mem_range.1 (List.mem_of_find?_eq_some hf)
    simp
    omega
/-- what FirstFalseRank says -/
def ffOut (p : Nat → Bool) : Int × Int := if ffI p < 0 then (0, 4) else (ffI p, 0)
theorem ffI_some (p : Nat → Bool) (j : Nat) (hj : j < 61) (h : ∀ n < j, p n = true) (hp : p j = false) : ffI p = j := by
  have hf : (List.range 61).find? (fun n => !p n) = some j := by
    rw [List.find?_eq_some_iff_append]
    refine ⟨by rw [hp]; rfl, List.range j, List.range' (j + 1) (60 - j), ?_, fun a ha => by rw [h a (List.mem_range.1 ha)]; rfl⟩
    obtain ⟨d, hd⟩ : ∃ d, 60 - j = d := ⟨_, rfl⟩
    rw [hd, ← List.range'_succ, List.range_eq_range', List.range_eq_range', show (61 : Nat) = j + (d + 1) by omega]
    have := List.range'_append (s := 0) (m := j) (n := d + 1) (step := 1)
    rw [← this]
    simp
  unfold ffI
  rw [hf]
theorem ffI_none (p : Nat → Bool) (h : ∀ n < 61, p n = true) : ffI p = -1 := by
  have hf : (List.range 61).find? (fun n => !p n) = none := by
    rw [List.find?_eq_none]
    intro n hn
    rw [h n (List.mem_range.1 hn)]
    decide
  unfold ffI
  rw [hf]
end Go.Proofs.YtaigiopoogbbbaaGreat

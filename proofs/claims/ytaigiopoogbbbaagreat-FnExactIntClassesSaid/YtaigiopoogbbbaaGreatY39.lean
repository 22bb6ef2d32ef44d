/- Plain law of IntClasses: equivalence, keys of classes, codes. No program in sight. -/
import Derived.Test.YtaigiopoogbbbaaGreatY23
namespace Go.Proofs.YtaigiopoogbbbaaGreat
open Go.RowKit
set_option linter.unusedVariables false
set_option linter.unusedSimpArgs false
theorem Val.refl (f : Fm) : Val [f] f := Val.ax (by simp)
theorem Val.cut {f g k : Fm} (h : Val [f] g) (h' : Val [g] k) : Val [f] k := fun W R V hm x hx => h' W R V hm x fun y hy => by
  rw [List.mem_singleton.1 hy]; exact h W R V hm x hx
/-- are two formulas equivalent? -/
noncomputable def eqv (f g : Fm) : Bool := vlB [f] g && vlB [g] f
theorem eqv_iff {f g : Fm} : eqv f g = true ↔ Val [f] g ∧ Val [g] f := by
  unfold eqv; rw [Bool.and_eq_true, vlB_iff, vlB_iff]
theorem eqv_refl (f : Fm) : eqv f f = true := eqv_iff.2 ⟨Val.refl f, Val.refl f⟩
theorem eqv_symm {f g : Fm} (h : eqv f g = true) : eqv g f = true := eqv_iff.2 (eqv_iff.1 h).symm
theorem eqv_trans {f g k : Fm} (h : eqv f g = true) (h' : eqv g k = true) : eqv f k = true :=
  eqv_iff.2 ⟨Val.cut (eqv_iff.1 h).1 (eqv_iff.1 h').1, Val.cut (eqv_iff.1 h').2 (eqv_iff.1 h).2⟩
/-- how two formulas are related -/
noncomputable def ord3 (f g : Fm) : Int := if vlB [f] g = true then (if vlB [g] f = true then 0 else 1) else (if vlB [g] f = true then 2 else 3)
theorem ord3_zero (f g : Fm) : (ord3 f g == 0) = eqv f g := by
  unfold ord3 eqv
  cases vlB [f] g <;> cases vlB [g] f <;> rfl
/-- the formula at a place -/
def fAt (O : List Fm) (i : Nat) : Fm := O.getD i .fls
/-- the formulas that are equivalent to each -/
noncomputable def ikey (O : List Fm) : List Nat := O.map fun f => msk (fun j => eqv f (fAt O j)) O.length
theorem ikey_len (O : List Fm) : (ikey O).length = O.length := List.length_map ..
theorem ikey_get (O : List Fm) {i : Nat} (h : i < O.length) : (ikey O).getD i 0 = msk (fun j => eqv (fAt O i) (fAt O j)) O.length := by
  unfold ikey fAt
  rw [List.getD_eq_getElem?_getD, List.getElem?_map, List.getD_eq_getElem?_getD, List.getElem?_eq_getElem h]
  rfl
theorem ikey_lt (O : List Fm) (h : O.length ≤ 8) (i : Nat) : (ikey O).getD i 0 < 256 := by
  by_cases hi : i < O.length
  · rw [ikey_get O hi]
    refine Nat.lt_of_lt_of_le (msk_lt _ _) ?_
    exact Nat.pow_le_pow_right (by omega) h
  · rw [List.getD_eq_getElem?_getD, List.getElem?_eq_none (by rw [ikey_len]; omega)]
    decide
theorem ikey_eq (O : List Fm) {i k : Nat} (hi : i < O.length) (hk : k < O.length) : (ikey O).getD k 0 = (ikey O).getD i 0 ↔ eqv (fAt O i) (fAt O k) = true := by
  rw [ikey_get O hi, ikey_get O hk]
  constructor
  · intro h
    have h1 := congrArg (fun n => n.testBit k) h
    simp only [msk_testBit, decide_eq_true hk, Bool.true_and] at h1
    rw [← h1]; exact eqv_refl _
  · intro h
    refine msk_congr _ _ _ fun j hj => ?_
    rw [Bool.eq_iff_iff]
    exact ⟨fun h1 => eqv_trans h h1, fun h1 => eqv_trans (eqv_symm h) h1⟩
/-- are two of the lists too long together? -/
def bigP (xss : List (List Nd)) : Bool := (List.range xss.length).any fun i => (List.range i).any fun k => decide (20 < (xss.getD i []).length + (xss.getD k []).length)
def icode (xss : List (List Nd)) : Int := if xss.all isF then (if 8 < xss.length then 2 else if xss.all pl then (if bigP xss then 3 else 0) else 5) else 1
theorem bigP_no {xss : List (List Nd)} (h : bigP xss = false) {i k : Nat} (hi : i < xss.length) (hk : k < i) : (xss.getD i []).length + (xss.getD k []).length ≤ 20 := by
  unfold bigP at h
  rw [List.any_eq_false] at h
  have h1 := h i (List.mem_range.2 hi)
  rw [Bool.not_eq_true, List.any_eq_false] at h1
  have h2 := h1 k (List.mem_range.2 hk)
  simpa using h2
theorem bigP_yes {xss : List (List Nd)} {i k : Nat} (hi : i < xss.length) (hk : k < i) (h : 20 < (xss.getD i []).length + (xss.getD k []).length) : bigP xss = true := by
  unfold bigP
  rw [List.any_eq_true]
  refine ⟨i, List.mem_range.2 hi, ?_⟩
  rw [List.any_eq_true]
  exact ⟨k, List.mem_range.2 hk, decide_eq_true h⟩
theorem bigP_of {xss : List (List Nd)} (h : ∀ i k, i < xss.length → k < i → (xss.getD i []).length + (xss.getD k []).length ≤ 20) : bigP xss = false := by
  unfold bigP
  rw [List.any_eq_false]
  intro i hi
  rw [Bool.not_eq_true, List.any_eq_false]
  intro k hk
  rw [decide_eq_true_eq]
  have := h i k (List.mem_range.1 hi) (List.mem_range.1 hk)
  omega
end Go.Proofs.YtaigiopoogbbbaaGreat

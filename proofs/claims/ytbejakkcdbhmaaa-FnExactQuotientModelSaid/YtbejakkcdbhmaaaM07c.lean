/- Plain law of chapter 7: the map of divided after j elements. No program in sight. -/
import Derived.Test.YtbejakkcdbhmaaaM07b
namespace Go.Proofs.Ytbejakkcdbhmaaa
set_option linter.unusedVariables false
set_option linter.unusedSimpArgs false
/-- the class of the first of j elements with a key -/
def fst (key : Nat → Nat) (j a : Nat) : Option Nat := ((List.range j).find? (fun y => decide (key y = a))).map fun y => (dvd key j).1.getD y 0
theorem dvd_keep (key : Nat → Nat) (j y : Nat) (h : y < j) : (dvd key (j + 1)).1.getD y 0 = (dvd key j).1.getD y 0 := by
  have hl := dvd_length key j
  rw [dvd]
  split <;> simp only <;> rw [List.getD_eq_getElem?_getD, List.getElem?_append_left (by omega), ← List.getD_eq_getElem?_getD]
theorem fst_known {key : Nat → Nat} {j y : Nat} (h : (List.range j).find? (fun z => decide (key z = key j)) = some y) : fst key j (key j) = some ((dvd key j).1.getD y 0) := by
  unfold fst; rw [h]; rfl
theorem fst_new {key : Nat → Nat} {j : Nat} (h : (List.range j).find? (fun z => decide (key z = key j)) = none) : fst key j (key j) = none := by
  unfold fst; rw [h]; rfl
theorem fst_old {key : Nat → Nat} {j a y : Nat} (h : (List.range j).find? (fun z => decide (key z = a)) = some y) : fst key (j + 1) a = fst key j a := by
  have hy := List.mem_range.1 (List.mem_of_find?_eq_some h)
  unfold fst
  rw [List.range_succ, List.find?_append, h]
  show some ((dvd key (j + 1)).1.getD y 0) = some ((dvd key j).1.getD y 0)
  rw [dvd_keep key j y hy]
theorem fst_none {key : Nat → Nat} {j a : Nat} (h : (List.range j).find? (fun z => decide (key z = a)) = none) (hne : ¬ key j = a) : fst key (j + 1) a = fst key j a := by
  unfold fst
  rw [List.range_succ, List.find?_append, h]
  simp [hne]
theorem fst_step_known {key : Nat → Nat} {j y : Nat} (h : (List.range j).find? (fun z => decide (key z = key j)) = some y) : fst key (j + 1) = fst key j := by
  funext a
  cases ha : (List.range j).find? (fun z => decide (key z = a)) with
  | some z => exact fst_old ha
  | none => exact fst_none ha (fun e => by subst e; rw [h] at ha; cases ha)
theorem fst_step_new {key : Nat → Nat} {j : Nat} (h : (List.range j).find? (fun z => decide (key z = key j)) = none) : fst key (j + 1) = fun a => if a = key j then some (dvd key j).2 else fst key j a := by
  funext a
  by_cases he : a = key j
  · subst he
    rw [if_pos rfl]
    unfold fst
    rw [List.range_succ, List.find?_append, h]
    have hl := dvd_length key j
    have : (dvd key (j + 1)).1.getD j 0 = (dvd key j).2 := by
      rw [dvd, h]
      simp only
      rw [List.getD_eq_getElem?_getD, List.getElem?_append_right (by omega), hl]
      simp
    rw [List.getD_eq_getElem?_getD] at this
    simp [this]
  · rw [if_neg he]
    cases ha : (List.range j).find? (fun z => decide (key z = a)) with
    | some z => exact fst_old ha
    | none => exact fst_none ha (fun e => he e.symm)
end Go.Proofs.Ytbejakkcdbhmaaa

/- Plain law of chapter 4: classes by a scan of the tables so far. No program in sight. -/
import Derived.Test.YtgdmfihnbbgcoaaM04
import Derived.Test.YtgdmfihnbbgcoaaSA
namespace Go.Proofs.Ytgdmfihnbbgcoaa
set_option linter.unusedVariables false
set_option linter.unusedSimpArgs false
/-- the table of a row -/
def tbl (m : Nat) : List Bool := (List.range 64).map m.testBit
theorem tbl_length (m : Nat) : (tbl m).length = 64 := by simp [tbl]
theorem tbl_mdl (f : Fm) : tbl (mdl f) = (List.range 64).map (ev f) := by
  unfold tbl
  refine List.map_congr_left fun i hi => ?_
  rw [mdl, msk_testBit, decide_eq_true (List.mem_range.1 hi), Bool.true_and]
theorem tbl_inj {a b : Nat} (ha : a < 18446744073709551616) (hb : b < 18446744073709551616) (h : tbl a = tbl b) : a = b := by
  refine msk_ext 64 ha hb fun i hi => ?_
  have := congrArg (fun l => l[i]?) h
  simpa [tbl, hi] using this
/-- the keys of the classes -/
def rf (key : Nat → Nat) : Nat → List Nat
  | 0 => []
  | x + 1 => if key x ∈ rf key x then rf key x else rf key x ++ [key x]
theorem rf_mem (key : Nat → Nat) (x a : Nat) : a ∈ rf key x ↔ ∃ y, y < x ∧ key y = a := by
  induction x with
  | zero => simp [rf]
  | succ x ih =>
    rw [rf]
    split
    · rename_i h
      rw [ih]
      constructor
      · rintro ⟨y, hy, e⟩; exact ⟨y, by omega, e⟩
      · rintro ⟨y, hy, e⟩
        rcases Nat.lt_or_ge y x with h1 | h1
        · exact ⟨y, h1, e⟩
        · obtain rfl : y = x := by omega
          subst e
          exact ih.1 h
    · rw [List.mem_append, ih, List.mem_singleton]
      constructor
      · rintro (⟨y, hy, e⟩ | e)
        · exact ⟨y, by omega, e⟩
        · exact ⟨x, by omega, e.symm⟩
      · rintro ⟨y, hy, e⟩
        rcases Nat.lt_or_ge y x with h1 | h1
        · exact .inl ⟨y, h1, e⟩
        · obtain rfl : y = x := by omega
          exact .inr e.symm
theorem rf_nodup (key : Nat → Nat) (x : Nat) : (rf key x).Nodup := by
  induction x with
  | zero => simp [rf]
  | succ x ih =>
    rw [rf]
    split
    · exact ih
    · rename_i h
      rw [List.nodup_append]
      refine ⟨ih, by simp, fun a ha b hb => ?_⟩
      rw [List.mem_singleton] at hb
      subst hb
      exact fun e => h (e ▸ ha)
theorem rf_len (key : Nat → Nat) (x : Nat) : (rf key x).length ≤ x := by
  induction x with
  | zero => simp [rf]
  | succ x ih =>
    rw [rf]
    split
    · omega
    · rw [List.length_append, List.length_singleton]; omega
theorem find_none_iff (key : Nat → Nat) (x : Nat) : (List.range x).find? (fun y => decide (key y = key x)) = none ↔ ¬ key x ∈ rf key x := by
  rw [List.find?_eq_none, rf_mem]
  constructor
  · rintro h ⟨y, hy, e⟩
    exact h y (List.mem_range.2 hy) (decide_eq_true e)
  · intro h y hy e
    exact h ⟨y, List.mem_range.1 hy, of_decide_eq_true e⟩
theorem getD_snoc_lt {l : List Nat} {a y : Nat} (h : y < l.length) : (l ++ [a]).getD y 0 = l.getD y 0 := by
  rw [List.getD_eq_getElem?_getD, List.getElem?_append_left h, ← List.getD_eq_getElem?_getD]
theorem getD_snoc_eq {l : List Nat} {a y : Nat} (h : l.length = y) : (l ++ [a]).getD y 0 = a := by
  rw [List.getD_eq_getElem?_getD, List.getElem?_append_right (by omega), h]
  simp
theorem dvd_rf (key : Nat → Nat) (x : Nat) : (dvd key x).2 = (rf key x).length ∧ ∀ y, y < x → (rf key x)[(dvd key x).1.getD y 0]? = some (key y) := by
  induction x with
  | zero => exact ⟨rfl, fun y hy => by omega⟩
  | succ x ih =>
    obtain ⟨h1, h2⟩ := ih
    have hl := dvd_length key x
    cases hf : (List.range x).find? (fun y => decide (key y = key x)) with
    | some z =>
      have hz : z < x ∧ key z = key x := ⟨List.mem_range.1 (List.mem_of_find?_eq_some hf), by have := List.find?_some hf; simpa using this⟩
      have hm : key x ∈ rf key x := (rf_mem key x _).2 ⟨z, hz.1, hz.2⟩
      rw [dvd, hf, rf, if_pos hm]
      refine ⟨h1, fun y hy => ?_⟩
      dsimp only
      rcases Nat.lt_or_ge y x with h3 | h3
      · rw [getD_snoc_lt (by omega)]
        exact h2 y h3
      · obtain rfl : y = x := by omega
        rw [getD_snoc_eq hl, h2 z hz.1, hz.2]
    | none =>
      have hm := (find_none_iff key x).1 hf
      rw [dvd, hf, rf, if_neg hm]
      refine ⟨by simp [h1], fun y hy => ?_⟩
      dsimp only
      rcases Nat.lt_or_ge y x with h3 | h3
      · rw [getD_snoc_lt (by omega)]
        have h4 := h2 y h3
        rw [List.getElem?_append_left (List.getElem?_eq_some_iff.1 h4).1]
        exact h4
      · obtain rfl : y = x := by omega
        rw [getD_snoc_eq hl, h1, List.getElem?_append_right (by omega)]
        simp
/-- the last place of a number, or -1 -/
def sc (l : List Nat) (a : Nat) : Nat → Int
  | 0 => -1
  | k + 1 => if l.getD k 0 = a then k else sc l a k
theorem sc_ge (l : List Nat) (a k : Nat) : -1 ≤ sc l a k ∧ sc l a k < k ∨ sc l a k = -1 := by
  induction k with
  | zero => exact .inr rfl
  | succ k ih =>
    rw [sc]
    split
    · left; omega
    · omega
theorem sc_no (l : List Nat) (a : Nat) (h : ¬ a ∈ l) : ∀ k, k ≤ l.length → sc l a k = -1 := by
  intro k
  induction k with
  | zero => intro _; rfl
  | succ k ih =>
    intro hk
    rw [sc, if_neg, ih (by omega)]
    intro e
    apply h
    rw [List.getD_eq_getElem?_getD, List.getElem?_eq_getElem (by omega), Option.getD_some] at e
    exact e ▸ List.getElem_mem _
theorem sc_yes (l : List Nat) (hd : l.Nodup) (a c : Nat) (h : l[c]? = some a) : ∀ k, c < k → k ≤ l.length → sc l a k = c := by
  intro k
  obtain ⟨hc, he⟩ := List.getElem?_eq_some_iff.1 h
  induction k with
  | zero => intro h0; omega
  | succ k ih =>
    intro h1 h2
    rw [sc, List.getD_eq_getElem?_getD, List.getElem?_eq_getElem (by omega), Option.getD_some]
    by_cases e : k = c
    · subst e; rw [if_pos he]
    · rw [if_neg, ih (by omega) (by omega)]
      intro e2
      exact e ((List.getElem_inj hd).1 (e2.trans he.symm))
/-- one step of the reference -/
theorem step_old (key : Nat → Nat) (x : Nat) (h : key x ∈ rf key x) : ∃ c : Nat, sc (rf key x) (key x) (rf key x).length = c ∧ (dvd key (x + 1)).1 = (dvd key x).1 ++ [c] ∧ rf key (x + 1) = rf key x ∧ c < (rf key x).length := by
  cases hf : (List.range x).find? (fun y => decide (key y = key x)) with
  | none => exact absurd h ((find_none_iff key x).1 hf)
  | some z =>
    have hz : z < x ∧ key z = key x := ⟨List.mem_range.1 (List.mem_of_find?_eq_some hf), by have := List.find?_some hf; simpa using this⟩
    have h2 := (dvd_rf key x).2 z hz.1
    have hc := (List.getElem?_eq_some_iff.1 h2).1
    refine ⟨(dvd key x).1.getD z 0, sc_yes _ (rf_nodup key x) _ _ (by rw [h2, hz.2]) _ hc (Nat.le_refl _), by rw [dvd, hf], by rw [rf, if_pos h], hc⟩
theorem step_new (key : Nat → Nat) (x : Nat) (h : ¬ key x ∈ rf key x) : sc (rf key x) (key x) (rf key x).length = -1 ∧ (dvd key (x + 1)).1 = (dvd key x).1 ++ [(rf key x).length] ∧ rf key (x + 1) = rf key x ++ [key x] := by
  have hf := (find_none_iff key x).2 h
  refine ⟨sc_no _ _ h _ (Nat.le_refl _), ?_, by rw [rf, if_neg h]⟩
  rw [dvd, hf, (dvd_rf key x).1]
end Go.Proofs.Ytgdmfihnbbgcoaa

/- Plain law of chapter 7: the links of a model with itself are equivalences. No program in sight. -/
import Derived.Test.YtbejakkcdbhmaaaM07
namespace Go.Proofs.Ytbejakkcdbhmaaa
open Go.RowKit
set_option linter.unusedVariables false
set_option linter.unusedSimpArgs false
theorem and_ne_zero (a b : Nat) : ¬ a &&& b = 0 ↔ ∃ t, a.testBit t = true ∧ b.testBit t = true := by
  constructor
  · intro h
    obtain ⟨t, ht⟩ := Nat.exists_testBit_of_ne_zero h
    rw [Nat.testBit_and, Bool.and_eq_true] at ht
    exact ⟨t, ht⟩
  · rintro ⟨t, h1, h2⟩ h
    have := congrArg (fun n => n.testBit t) h
    simp [Nat.testBit_and, h1, h2] at this
theorem frt_iff (lk : List Nat) (a b : Nat) : frt lk a b = true ↔ ∀ s, s < lk.length → a.testBit s = true → ∃ t, (lk.getD s 0).testBit t = true ∧ b.testBit t = true := by
  unfold frt
  rw [List.all_eq_true]
  constructor
  · intro h s hs ha
    have := h s (List.mem_range.2 hs)
    rw [ha, Bool.true_and, Bool.not_eq_true', decide_eq_false_iff_not] at this
    exact (and_ne_zero _ _).1 this
  · intro h s hs
    rw [List.mem_range] at hs
    cases ha : a.testBit s
    · rfl
    · rw [Bool.true_and, Bool.not_eq_true', decide_eq_false_iff_not]
      exact (and_ne_zero _ _).2 (h s hs ha)
theorem bck_iff (lk : List Nat) (a b : Nat) : bck lk a b = true ↔ ∀ t, b.testBit t = true → ∃ s, s < lk.length ∧ a.testBit s = true ∧ (lk.getD s 0).testBit t = true := by
  unfold bck img
  rw [decide_eq_true_eq, andnot_zero]
  constructor
  · intro h t ht; exact (imgTo_bit _ _ _ _).1 (h t ht)
  · intro h t ht; exact (imgTo_bit _ _ _ _).2 (h t ht)
theorem bnd_bit0 (ns us : List Nat) {x y : Nat} (hx : x < ns.length) (hy : y < ns.length) : ((bnd ns us ns us 0).getD x 0).testBit y = atm us us x y := by
  unfold bnd
  rw [lnk_getD _ hx, msk_testBit, decide_eq_true hy, Bool.true_and]
theorem bnd_bit (ns us : List Nat) (k : Nat) {x y : Nat} (hx : x < ns.length) (hy : y < ns.length) : ((bnd ns us ns us (k + 1)).getD x 0).testBit y = hol ns us ns us (bnd ns us ns us k) x y := by
  rw [bnd, lnk_getD _ hx, msk_testBit, decide_eq_true hy, Bool.true_and]
/-- the worlds x and y are linked in k rounds -/
def rel (ns us : List Nat) (k x y : Nat) : Prop := ((bnd ns us ns us k).getD x 0).testBit y = true
theorem hol_iff (ns us : List Nat) (h : RelN ns) (k x y : Nat) : hol ns us ns us (bnd ns us ns us k) x y = true ↔ atm us us x y = true ∧
    (∀ s, s < ns.length → (ns.getD x 0).testBit s = true → ∃ t, t < ns.length ∧ rel ns us k s t ∧ (ns.getD y 0).testBit t = true) ∧
    (∀ t, t < ns.length → (ns.getD y 0).testBit t = true → ∃ s, s < ns.length ∧ (ns.getD x 0).testBit s = true ∧ rel ns us k s t) := by
  unfold hol
  rw [Bool.and_eq_true, Bool.and_eq_true, frt_iff, bck_iff, bnd_length]
  constructor
  · rintro ⟨h1, h2, h3⟩
    refine ⟨h1, fun s hs ha => ?_, fun t ht hb => ?_⟩
    · obtain ⟨t, p, q⟩ := h2 s hs ha
      exact ⟨t, bit_lt (getD_lt h.2 y) q, p, q⟩
    · obtain ⟨s, p, q, r⟩ := h3 t hb
      exact ⟨s, p, q, r⟩
  · rintro ⟨h1, h2, h3⟩
    refine ⟨h1, fun s hs ha => ?_, fun t hb => ?_⟩
    · obtain ⟨t, p, q, r⟩ := h2 s hs ha
      exact ⟨t, q, r⟩
    · exact h3 t (bit_lt (getD_lt h.2 y) hb) hb
theorem atm_refl (us : List Nat) (x : Nat) : atm us us x x = true := by rw [atm_tru]; simp
theorem atm_symm {us : List Nat} {x y : Nat} (h : atm us us x y = true) : atm us us y x = true := by
  rw [atm_tru, decide_eq_true_eq] at h ⊢; exact h.symm
theorem atm_trans {us : List Nat} {x y z : Nat} (h : atm us us x y = true) (h' : atm us us y z = true) : atm us us x z = true := by
  rw [atm_tru, decide_eq_true_eq] at h h' ⊢; exact h.trans h'
theorem rel_eqv (ns us : List Nat) (h : RelN ns) (k : Nat) :
    (∀ x, x < ns.length → rel ns us k x x) ∧ (∀ x y, x < ns.length → y < ns.length → rel ns us k x y → rel ns us k y x) ∧
    (∀ x y z, x < ns.length → y < ns.length → z < ns.length → rel ns us k x y → rel ns us k y z → rel ns us k x z) := by
  induction k with
  | zero =>
    unfold rel
    refine ⟨fun x hx => ?_, fun x y hx hy hr => ?_, fun x y z hx hy hz h1 h2 => ?_⟩
    · rw [bnd_bit0 ns us hx hx]; exact atm_refl us x
    · rw [bnd_bit0 ns us hx hy] at hr; rw [bnd_bit0 ns us hy hx]; exact atm_symm hr
    · rw [bnd_bit0 ns us hx hy] at h1; rw [bnd_bit0 ns us hy hz] at h2; rw [bnd_bit0 ns us hx hz]; exact atm_trans h1 h2
  | succ k ih =>
    obtain ⟨ir, is, it⟩ := ih
    have key : ∀ {x y}, x < ns.length → y < ns.length → (rel ns us (k + 1) x y ↔ hol ns us ns us (bnd ns us ns us k) x y = true) := fun hx hy => by
      unfold rel; rw [bnd_bit ns us k hx hy]
    refine ⟨fun x hx => ?_, fun x y hx hy hr => ?_, fun x y z hx hy hz h1 h2 => ?_⟩
    · rw [key hx hx, hol_iff ns us h]
      exact ⟨atm_refl us x, fun s hs ha => ⟨s, hs, ir s hs, ha⟩, fun t ht hb => ⟨t, ht, hb, ir t ht⟩⟩
    · rw [key hx hy, hol_iff ns us h] at hr
      rw [key hy hx, hol_iff ns us h]
      obtain ⟨a, f, b⟩ := hr
      refine ⟨atm_symm a, fun s hs ha => ?_, fun t ht hb => ?_⟩
      · obtain ⟨u, p, q, r⟩ := b s hs ha
        exact ⟨u, p, is u s p hs r, q⟩
      · obtain ⟨u, p, q, r⟩ := f t ht hb
        exact ⟨u, p, r, is t u ht p q⟩
    · rw [key hx hy, hol_iff ns us h] at h1
      rw [key hy hz, hol_iff ns us h] at h2
      rw [key hx hz, hol_iff ns us h]
      obtain ⟨a, f, b⟩ := h1
      obtain ⟨a', f', b'⟩ := h2
      refine ⟨atm_trans a a', fun s hs ha => ?_, fun t ht hb => ?_⟩
      · obtain ⟨u, p, q, r⟩ := f s hs ha
        obtain ⟨v, p', q', r'⟩ := f' u p r
        exact ⟨v, p', it s u v hs p p' q q', r'⟩
      · obtain ⟨u, p, q, r⟩ := b' t ht hb
        obtain ⟨v, p', q', r'⟩ := b u p q
        exact ⟨v, p', q', it v u t p' p ht r' r⟩
/-- linked worlds have one row -/
theorem rel_row (ns us : List Nat) (h : RelN ns) (k : Nat) {x y : Nat} (hx : x < ns.length) (hy : y < ns.length) :
    ((bnd ns us ns us k).getD y 0).testBit x = decide ((bnd ns us ns us k).getD y 0 = (bnd ns us ns us k).getD x 0) := by
  obtain ⟨ir, is, it⟩ := rel_eqv ns us h k
  rw [Bool.eq_iff_iff, decide_eq_true_eq]
  constructor
  · intro hr
    refine msk_ext ns.length (getD_lt (bnd_lt ns us ns us k) y) (getD_lt (bnd_lt ns us ns us k) x) fun z hz => ?_
    rw [Bool.eq_iff_iff]
    exact ⟨fun h1 => it x y z hx hy hz (is y x hy hx hr) h1, fun h1 => it y x z hy hx hz hr h1⟩
  · intro e
    rw [e]
    exact ir x hx
/-- the number of the class of each of the first x elements, and the number of classes: elements with one key are in one class -/
def dvd (key : Nat → Nat) : Nat → List Nat × Nat
  | 0 => ([], 0)
  | x + 1 => match (List.range x).find? (fun y => decide (key y = key x)) with
    | some y => ((dvd key x).1 ++ [(dvd key x).1.getD y 0], (dvd key x).2)
    | none => ((dvd key x).1 ++ [(dvd key x).2], (dvd key x).2 + 1)
theorem dvd_length (key : Nat → Nat) (x : Nat) : (dvd key x).1.length = x := by
  induction x with
  | zero => rfl
  | succ x ih => rw [dvd]; split <;> simp [ih]
theorem dvd_count (key : Nat → Nat) (x : Nat) : (dvd key x).2 ≤ x := by
  induction x with
  | zero => exact Nat.le_refl _
  | succ x ih => rw [dvd]; split <;> simp <;> omega
theorem dvd_lt (key : Nat → Nat) (x : Nat) : ∀ c ∈ (dvd key x).1, c < (dvd key x).2 := by
  induction x with
  | zero => intro c hc; simp [dvd] at hc
  | succ x ih =>
    intro c hc
    rw [dvd] at hc ⊢
    cases hf : (List.range x).find? (fun y => decide (key y = key x)) with
    | some y =>
      rw [hf] at hc
      simp only [List.mem_append, List.mem_singleton] at hc ⊢
      rcases hc with hc | hc
      · exact ih c hc
      · have hy := List.mem_of_find?_eq_some hf
        rw [List.mem_range] at hy
        rw [hc, List.getD_eq_getElem?_getD, List.getElem?_eq_getElem (by rw [dvd_length]; exact hy)]
        exact ih _ (List.getElem_mem _)
    | none =>
      rw [hf] at hc
      simp only [List.mem_append, List.mem_singleton] at hc ⊢
      rcases hc with hc | hc
      · have := ih c hc; omega
      · omega
end Go.Proofs.Ytbejakkcdbhmaaa

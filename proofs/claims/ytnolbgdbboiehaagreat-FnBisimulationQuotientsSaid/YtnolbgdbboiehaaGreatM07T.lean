/- Plain words of chapter 7: telling formulas. No program in sight. -/
import Derived.Test.YtnolbgdbboiehaaGreatSA
import Derived.Test.YtnolbgdbboiehaaGreatB6
namespace Go.Proofs.YtnolbgdbboiehaaGreat
set_option linter.unusedVariables false
set_option linter.unusedSimpArgs false
/-- the members of a mask -/
def mn (m : Nat) : List Nat := (List.range 64).filter m.testBit
theorem mems_mn (m : Nat) : mems m = li (mn m) := rfl
theorem mn_mem {m x : Nat} : x ∈ mn m ↔ x < 64 ∧ m.testBit x = true := by simp [mn]
theorem mn_len (m : Nat) : (mn m).length ≤ 64 := Nat.le_trans (List.length_filter_le _ _) (by simp)
theorem find_le {p : Nat → Bool} {n k : Nat} (hk : k < n) (hp : p k = true) : ∃ j, j ≤ k ∧ (List.range n).find? p = some j := by
  cases h : (List.range n).find? p with
  | none => exact absurd hp (by have := List.find?_eq_none.1 h k (List.mem_range.2 hk); simpa using this)
  | some j =>
    refine ⟨j, ?_, rfl⟩
    have hj := h
    rw [List.find?_range_eq_some] at h
    rcases Nat.lt_or_ge k j with h1 | h1
    · have := h.2.2 k h1
      rw [hp] at this; cases this
    · exact h1
section
variable (ns us ks ts : List Nat)
/-- the rounds in which two worlds are told apart -/
def rd (x y : Nat) : Option Nat := (List.range 17).find? fun k => !((bnd ns us ks ts k).getD x 0).testBit y
def joinA (op : Int) (ps : List (List Nd)) : List Nd := if ps.length = 0 then joinE op else joinL op ps
/-- a modality before the parts joined -/
def joi (md op : Int) (parts : List (Option (List Nd))) : Option (List Nd) :=
  if parts.all Option.isSome then (if ((md, (0 : Int)) :: joinA op (parts.filterMap id)).length ≤ 40 then some ((md, 0) :: joinA op (parts.filterMap id)) else none) else none
def lonW (lk : List Nat) (x y : Nat) : Option Nat := (mn (ns.getD x 0)).find? fun s => decide (lk.getD s 0 &&& ks.getD y 0 = 0)
def miss (lk : List Nat) (x y : Nat) : Option Nat := (mn (ks.getD y 0)).find? fun j => !(img lk (ns.getD x 0)).testBit j
def tstep (T : Nat → Nat → Option (List Nd)) (k x y : Nat) : Option (List Nd) :=
  match lonW ns ks (bnd ns us ks ts k) x y with
  | some s => joi 6 2 ((mn (ks.getD y 0)).map fun j => T s j)
  | none => match miss ns ks (bnd ns us ks ts k) x y with
    | some j => joi 5 3 ((mn (ns.getD x 0)).map fun i => T i j)
    | none => none
/-- the first variable that tells two worlds apart -/
def dif (x y : Nat) : Option Nat := (List.range 6).find? fun v => (us.getD v 0).testBit x != (ts.getD v 0).testBit y
def litF (v x : Nat) : List Nd := if (us.getD v 0).testBit x then [(0, (v : Int))] else [(4, 0), (0, (v : Int)), (1, 0)]
def atomF (x y : Nat) : Option (List Nd) := (dif us ts x y).map fun v => litF us v x
/-- the telling formulas of the worlds that are told apart in at most k rounds -/
def tab : Nat → Nat → Nat → Option (List Nd)
  | 0, x, y => if rd ns us ks ts x y = some 0 then atomF us ts x y else none
  | k + 1, x, y => if rd ns us ks ts x y = some (k + 1) then tstep ns us ks ts (tab k) k x y else tab k x y
end
variable {ns us ks ts : List Nat}
theorem tab_none {x y : Nat} (m : Nat) (h : ∀ k, k ≤ m → rd ns us ks ts x y ≠ some k) : tab ns us ks ts m x y = none := by
  induction m with
  | zero => rw [tab, if_neg (h 0 (Nat.le_refl _))]
  | succ m ih => rw [tab, if_neg (h (m + 1) (Nat.le_refl _)), ih fun k hk => h k (by omega)]
theorem tab_at {x y k : Nat} (h : rd ns us ks ts x y = some k) (m : Nat) (hm : k ≤ m) : tab ns us ks ts m x y = tab ns us ks ts k x y := by
  induction m with
  | zero =>
    obtain rfl : k = 0 := by omega
    rfl
  | succ m ih =>
    rcases Nat.lt_or_ge m k with h1 | h1
    · obtain rfl : k = m + 1 := by omega
      rfl
    · rw [tab, if_neg, ih h1]
      rw [h]; intro e; injection e with e; omega
theorem joinA_pos (op : Int) (ps : List (List Nd)) : True := trivial
theorem joi_len {md op : Int} {parts : List (Option (List Nd))} {xs : List Nd} (h : joi md op parts = some xs) : 0 < xs.length ∧ xs.length ≤ 40 := by
  unfold joi at h
  split at h
  · split at h
    · injection h with h
      subst h
      exact ⟨by simp, by assumption⟩
    · cases h
  · cases h
theorem tab_len (m : Nat) {x y : Nat} {xs : List Nd} (h : tab ns us ks ts m x y = some xs) : 0 < xs.length ∧ xs.length ≤ 40 := by
  induction m generalizing x y xs with
  | zero =>
    rw [tab] at h
    split at h
    · unfold atomF at h
      cases hd : dif us ts x y with
      | none => rw [hd] at h; cases h
      | some v =>
        rw [hd] at h
        injection h with h
        subst h
        dsimp only [litF]
        split <;> simp
    · cases h
  | succ m ih =>
    rw [tab] at h
    split at h
    · unfold tstep at h
      split at h
      · exact joi_len h
      · split at h
        · exact joi_len h
        · cases h
    · exact ih h
theorem bnd_rd {k s j : Nat} (hk : k < 17) (h : ((bnd ns us ks ts k).getD s 0).testBit j = false) : ∃ k', k' ≤ k ∧ rd ns us ks ts s j = some k' :=
  find_le hk (by rw [h]; rfl)
theorem and_bit {a b j : Nat} (h : a &&& b = 0) (hb : b.testBit j = true) : a.testBit j = false := by
  have := congrArg (fun n => n.testBit j) h
  simp only [Nat.testBit_and, hb, Bool.and_true, Nat.zero_testBit] at this
  exact this
theorem lonW_some {k x y s : Nat} (hk : k < 17) (h : lonW ns ks (bnd ns us ks ts k) x y = some s) :
    s < 64 ∧ (ns.getD x 0).testBit s = true ∧ ∀ j, j ∈ mn (ks.getD y 0) → ∃ k', k' ≤ k ∧ rd ns us ks ts s j = some k' := by
  have h1 := mn_mem.1 (List.mem_of_find?_eq_some h)
  have h2 := List.find?_some h
  simp only [decide_eq_true_eq] at h2
  exact ⟨h1.1, h1.2, fun j hj => bnd_rd hk (and_bit h2 (mn_mem.1 hj).2)⟩
theorem miss_some {k x y j : Nat} (hk : k < 17) (hl : ns.length ≤ 64) (hn : ∀ a ∈ ns, a < 2 ^ ns.length) (h : miss ns ks (bnd ns us ks ts k) x y = some j) :
    j < 64 ∧ (ks.getD y 0).testBit j = true ∧ ∀ i, i ∈ mn (ns.getD x 0) → ∃ k', k' ≤ k ∧ rd ns us ks ts i j = some k' := by
  have h1 := mn_mem.1 (List.mem_of_find?_eq_some h)
  have h2 := List.find?_some h
  simp only [Bool.not_eq_true'] at h2
  refine ⟨h1.1, h1.2, fun i hi => bnd_rd hk ?_⟩
  cases hb : ((bnd ns us ks ts k).getD i 0).testBit j
  · rfl
  · rw [← h2]
    have hi' := (mn_mem.1 hi).2
    have : (imgTo (bnd ns us ks ts k) (ns.getD x 0) (bnd ns us ks ts k).length).testBit j = true := (imgTo_bit _ _ _ _).2 ⟨i, by rw [bnd_length]; exact bit_lt (getD_lt hn x) hi', hi', hb⟩
    unfold img at h2 ⊢
    rw [this] at h2; cases h2
/-- the rounds of two worlds are the least -/
theorem rd_spec {x y k : Nat} (h : rd ns us ks ts x y = some k) : k < 17 ∧ ((bnd ns us ks ts k).getD x 0).testBit y = false ∧ ∀ k', k' < k → ((bnd ns us ks ts k').getD x 0).testBit y = true := by
  unfold rd at h
  rw [List.find?_range_eq_some] at h
  refine ⟨List.mem_range.1 h.2.1, by simpa using h.1, fun k' hk' => by simpa using h.2.2 k' hk'⟩
theorem rd_zero {x y : Nat} (hx : x < ns.length) (hy : y < ks.length) (h : rd ns us ks ts x y = some 0) : ∃ v, dif us ts x y = some v := by
  have h1 := (rd_spec h).2.1
  rw [bnd, lnk_getD _ hx, msk_testBit, decide_eq_true hy, Bool.true_and] at h1
  unfold dif
  cases hd : (List.range 6).find? (fun v => (us.getD v 0).testBit x != (ts.getD v 0).testBit y) with
  | some v => exact ⟨v, rfl⟩
  | none =>
    exfalso
    rw [List.find?_eq_none] at hd
    unfold atm at h1
    rw [List.all_eq_false] at h1
    obtain ⟨v, hv, h2⟩ := h1
    have := hd v hv
    simp at this
    simp [this] at h2
theorem rd_succ {x y k : Nat} (hn : ∀ a ∈ ns, a < 2 ^ ns.length) (hkb : ∀ a ∈ ks, a < 2 ^ ks.length) (hl : ns.length ≤ 8) (hl' : ks.length ≤ 8) (hx : x < ns.length) (hy : y < ks.length) (h : rd ns us ks ts x y = some (k + 1)) (h0 : lonW ns ks (bnd ns us ks ts k) x y = none) : ∃ j, miss ns ks (bnd ns us ks ts k) x y = some j := by
  obtain ⟨hk, h1, h2⟩ := rd_spec h
  rw [bnd, lnk_getD _ hx, msk_testBit, decide_eq_true hy, Bool.true_and] at h1
  have h3 := h2 0 (by omega)
  rw [bnd, lnk_getD _ hx, msk_testBit, decide_eq_true hy, Bool.true_and] at h3
  have hf : frt (bnd ns us ks ts k) (ns.getD x 0) (ks.getD y 0) = true := by
    unfold frt
    rw [List.all_eq_true]
    intro s hs
    unfold lonW at h0
    rw [List.find?_eq_none] at h0
    cases hb : (ns.getD x 0).testBit s
    · rfl
    · have := h0 s (mn_mem.2 ⟨by have := bit_lt (getD_lt hn x) hb; omega, hb⟩)
      simpa using this
  unfold hol at h1
  rw [h3, hf, Bool.true_and, Bool.true_and] at h1
  unfold miss
  cases hd : (mn (ks.getD y 0)).find? (fun j => !(img (bnd ns us ks ts k) (ns.getD x 0)).testBit j) with
  | some v => exact ⟨v, rfl⟩
  | none =>
    exfalso
    rw [List.find?_eq_none] at hd
    have : bck (bnd ns us ks ts k) (ns.getD x 0) (ks.getD y 0) = true := by
      unfold bck
      rw [decide_eq_true_eq, andnot_zero]
      intro t ht
      have := hd t (mn_mem.2 ⟨by have := bit_lt (getD_lt hkb y) ht; omega, ht⟩)
      simpa using this
    rw [this] at h1; cases h1
end Go.Proofs.YtnolbgdbboiehaaGreat

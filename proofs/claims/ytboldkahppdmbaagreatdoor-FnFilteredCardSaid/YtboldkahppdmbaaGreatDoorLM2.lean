/- The mark of a Model whose two lists lie in memory of their own, in either order. -/
import Derived.Test.YtboldkahppdmbaaGreatDoorLB
namespace Go.Proofs.YtboldkahppdmbaaGreatDoor
open Go.RowKit
set_option linter.unusedVariables false
set_option linter.unusedSimpArgs false
section
variable {α : Type} {K : Cod α} {e : TypeId} {B H : Nat} {w : World} {v : Value} {xs : List α}
theorem Ow.raise' {B' : Nat} (h : Ow K e B w v xs) (hk : ∀ k, v.ownBlock = some k → B' ≤ k) : Ow K e B' w v xs := by
  obtain ⟨hv, h1, h2⟩ := h
  refine ⟨hv, h1, ?_⟩
  rcases h2 with h2 | ⟨g, cap, cur, hg, hB, hr⟩
  · exact .inl h2
  · exact .inr ⟨g, cap, cur, hg, hk g (by rw [hg]; rfl), hr⟩
theorem Ob.tight (h : Ob K e B H w v xs) (hBH : B ≤ H) : ∃ b c, B ≤ b ∧ b ≤ c ∧ c ≤ H ∧ Ob K e b c w v xs ∧ (b = c ∧ b = B ∨ v.ownBlock = some b ∧ c = b + 1) := by
  cases hv : v.ownBlock with
  | none => exact ⟨B, B, Nat.le_refl _, Nat.le_refl _, hBH, ⟨h.1, fun k hk => by rw [hv] at hk; cases hk⟩, .inl ⟨rfl, rfl⟩⟩
  | some k =>
    have h1 := (h.1.block k hv).1
    have h2 := h.2 k hv
    exact ⟨k, k + 1, h1, by omega, by omega, ⟨h.1.raise' fun j hj => (by rw [hv] at hj; injection hj; omega), fun j hj => by rw [hv] at hj; injection hj; omega⟩, .inr ⟨rfl, rfl⟩⟩
theorem Ob.wide {H' : Nat} (h : Ob K e B H w v xs) (hH : H ≤ H') : Ob K e B H' w v xs := ⟨h.1, fun k hk => Nat.lt_of_lt_of_le (h.2 k hk) hH⟩
theorem Ob.lower {B' : Nat} (h : Ob K e B H w v xs) (hB : B' ≤ B) : Ob K e B' H w v xs := ⟨h.1.mono hB, h.2⟩
end
end Go.Proofs.YtboldkahppdmbaaGreatDoor

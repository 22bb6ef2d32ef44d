/- Contracts of IsTrueAtRank, IsLetterlessTheorem and AreLetterlessEqual, of the program and of the reference. -/
import Derived.Test.Ytbejakkcdbhmaaa32l
import Derived.Test.Ytbejakkcdbhmaaa32t
namespace Go.Proofs.Ytbejakkcdbhmaaa
open Go.RowKit
set_option linter.unusedVariables false
set_option linter.unusedSimpArgs false
theorem vmask_zero (xs : List Nd) : vmask xs = 0 → ∀ n ∈ xs, n.1 ≠ 0 := by
  have key : ∀ (xs : List Nd) (m : Nat), xs.foldl (fun m n => if n.1 = 0 then m ||| 2 ^ n.2.toNat else m) m = 0 → m = 0 ∧ ∀ n ∈ xs, n.1 ≠ 0 := by
    intro xs
    induction xs with
    | nil => intro m h; exact ⟨h, fun n hn => by cases hn⟩
    | cons x t ih =>
      intro m h
      rw [List.foldl_cons] at h
      obtain ⟨h1, h2⟩ := ih _ h
      by_cases hx : x.1 = 0
      · rw [if_pos hx, or_eq_zero] at h1
        have := Nat.pow_pos (n := x.2.toNat) (show 0 < 2 by decide)
        omega
      · rw [if_neg hx] at h1
        refine ⟨h1, fun n hn => ?_⟩
        rcases List.mem_cons.1 hn with rfl | hn
        · exact hx
        · exact h2 n hn
  intro h
  exact (key xs 0 h).2
theorem novar_of (f : Fm) (h : ∀ n ∈ enc f, n.1 ≠ 0) : f.novar = true := by
  induction f with
  | var s => exact absurd rfl (h (0, (s : Int)) (by simp [enc]))
  | fls => rfl
  | bin k a b iha ihb =>
    simp only [Fm.novar, Bool.and_eq_true]
    exact ⟨iha fun n hn => h n (by simp [enc, hn]), ihb fun n hn => h n (by simp [enc, hn])⟩
  | un k a ih => exact ih fun n hn => h n (by simp [enc, hn])
theorem letterless_fm {xs : List Nd} (h : isF xs = true) (h2 : letterless xs = true) : ∃ f : Fm, xs = enc f ∧ f.novar = true ∧ (enc f).length ≤ 40 := by
  obtain ⟨f, _, rfl, hl⟩ := (isF_iff xs).1 h
  exact ⟨f, rfl, novar_of f (vmask_zero _ (by simpa [letterless] using h2)), hl⟩
theorem lcode_one {xs : List Nd} (h : lcode [xs] = 0) : ∃ f : Fm, xs = enc f ∧ f.novar = true ∧ (enc f).length ≤ 40 := by
  simp only [lcode, List.all_cons, List.all_nil, Bool.and_true] at h
  by_cases h1 : isF xs = true
  · by_cases h2 : letterless xs = true
    · exact letterless_fm h1 h2
    · rw [if_pos h1, if_neg h2] at h; exact absurd h (by decide)
  · rw [if_neg h1] at h; exact absurd h (by decide)
/-- a code of formulas that have to be letterless, out of one formula laid as a list -/
theorem impl_lcode1 {A : Option Addr} {n c : Nat} (xs : List Nd) (w : World) (h : Sl cN w (.slice A n c) xs) (hl : xs.length ≤ 1048576) (g : Nat) (hg : g = w.heap.size) :
    Calls Try.prog 198 #[.slice (some ⟨g, 0, none⟩) 1 1] (w.alloc (.cells #[.slice A n c] 24)) fun e w' => e = .returned (.int .i64 (lcode [xs])) ∧ Below w.heap.size w w' := by
  subst hg
  exact (impl_letterlessCode _ [xs] _ (Sl2.one h 24) (by simp) (by simpa using hl)).mono fun e w' ⟨he, hb⟩ => ⟨he, ((Below.refl _ _).alloc (Nat.le_refl _) _).trans (hb.mono (by simp))⟩
theorem spec_lcode1 {A : Option Addr} {n c : Nat} (xs : List Nd) (w : World) (h : Sl cN w (.slice A n c) xs) (hl : xs.length ≤ 1048576) (g : Nat) (hg : g = w.heap.size) :
    Calls Try.prog 119 #[.slice (some ⟨g, 0, none⟩) 1 1] (w.alloc (.cells #[.slice A n c] 24)) fun e w' => e = .returned (.int .i64 (lcode [xs])) ∧ Below w.heap.size w w' := by
  subst hg
  exact (spec_l32Code _ [xs] _ (Sl2.one h 24) (by simp) (by simpa using hl)).mono fun e w' ⟨he, hb⟩ => ⟨he, ((Below.refl _ _).alloc (Nat.le_refl _) _).trans (hb.mono (by simp))⟩
end Go.Proofs.Ytbejakkcdbhmaaa

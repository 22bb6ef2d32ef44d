/- Joined of several texts: Open, OpM. -/
import Derived.Test.YtgkogfjifcfkoaaGreatY02
import Derived.ProofKit
import Derived.OpenShut
import Derived.ShutString
import Derived.ChangeOld
import Derived.Deep.Slices
import Derived.Lib.SmallJoins
import Derived.Deep.Fields
import Derived.ChangeSame
namespace Go.Proofs.YtgkogfjifcfkoaaGreat
open Go.RowKit
set_option linter.unusedVariables false
set_option linter.unusedSimpArgs false
/- Arguments opened: a slice that came in, as data, reads as a list in the words of Mem; over any program. -/
open Go.RowKit Go.ChangeShapes Go.WideShapes Go.Deep

/-- cells that read from an address on, as a slice -/
theorem sl_of_cells {α : Type} {K : Cod α} {w : World} {a : Addr} {n c : Nat} {xs : List α} (hn : n = xs.length) (hc : n ≤ c) (hm : c ≤ maxLen)
    (hcell : ∀ k u, (flat K xs)[k]? = some u → w.cell? (a.add k) = some u) : Sl K w (.slice (some a) n c) xs := by
  subst hn
  refine ⟨some a, c, rfl, hc, by simp only [maxLen] at hm; omega, ?_⟩
  rcases xs with _ | ⟨x, xs⟩
  · exact .inl rfl
  · right
    have hp := K.pos
    have hlen := flat_length (K := K) (x :: xs)
    have h0lt : 0 < (flat K (x :: xs)).length := by rw [hlen, List.length_cons, Nat.add_mul]; omega
    have h0 := hcell 0 _ (List.getElem?_eq_getElem h0lt)
    have ha : a.add 0 = a := by simp [Addr.add]
    rw [ha] at h0
    obtain ⟨b, o, s⟩ := a
    have hs : s = none := by
      cases s with
      | none => rfl
      | some s =>
        simp only [World.cell?] at h0
        split at h0
        · simp at h0
        · cases h0
    subst hs
    exact ⟨b, o, rfl, World.block_lt_of_cell? w _ h0, fun k u hu => by rw [← add_lit]; exact hcell k u hu⟩

section
variable {H : Type} {enc : TypeId × Value → H} {P : Program} {w : World} {base : Nat} {spare : Nat → Bool} {held : Bool}

end
/- An argument's datum that is a struct within a struct (a Model), opened. -/
open Go.ChangeShapes Go.WideShapes Go.ChangeAt Go.RowKit Go.Joins Go.Deep Go.Lib
end Go.Proofs.YtgkogfjifcfkoaaGreat

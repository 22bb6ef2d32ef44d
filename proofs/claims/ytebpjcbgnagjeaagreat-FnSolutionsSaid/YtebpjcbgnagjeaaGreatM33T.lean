/- FnSolutions' plain law in the words of the walk: what the calls give, in one statement. No program in sight. -/
import Derived.Test.YtebpjcbgnagjeaaGreatM33S
import Derived.Test.YtebpjcbgnagjeaaGreat33f
import Derived.Test.YtebpjcbgnagjeaaGreat33z
namespace Go.Proofs.YtebpjcbgnagjeaaGreat
open Go.RowKit
set_option linter.unusedVariables false
set_option linter.unusedSimpArgs false
theorem li_put (us : List Nat) (s m : Nat) : (li us).set s (m : Int) = li (us.set s m) := by
  unfold li
  rw [List.map_set]
/-- what the built fixed point gives at the values, where there is one -/
theorem sol_pack {ns us : List Nat} {f : Fm} {s : Nat} (h : MdN ns us) (hok : f.ok = true) (hl : (enc f).length ≤ 40) (hs : s ≤ 5) (h1 : trv ns = true) (h2 : acy ns = true) (h3 : gd f s = true) :
    csOut ns us f s = 1 ∧ tv ns (us.set s (slvn ns us f s ns.length)) f = slvn ns us f s ns.length ∧ MdN ns (us.set s (slvn ns us f s ns.length)) ∧
    ((fpC (fpB f s) = 3 ∧ fpL (fpB f s) = []) ∨ ∃ d : Fm, fpC (fpB f s) = 0 ∧ fpL (fpB f s) = enc d ∧ d.ok = true ∧ (enc d).length ≤ 40 ∧ tv ns us d = slvn ns us f s ns.length) := by
  have hs6 : s < us.length := by rw [h.l]; omega
  refine ⟨count_one h.r h.b h1 h2 hs6 h3, slvn_sol h.r h.b h1 h2 hs6 h3, ⟨h.r, by rw [List.length_set]; exact h.l, set_lt h.b s _ (slvn_lt ns us f s h.b _)⟩, ?_⟩
  cases hd : fpB f s with
  | none => exact .inl ⟨rfl, rfl⟩
  | some d =>
    exact .inr ⟨d, rfl, rfl, bldS_ok hok hd, bldS_40 hl hd, built_sol h.r h.b h1 h2 hs6 h3 hd⟩
end Go.Proofs.YtebpjcbgnagjeaaGreat

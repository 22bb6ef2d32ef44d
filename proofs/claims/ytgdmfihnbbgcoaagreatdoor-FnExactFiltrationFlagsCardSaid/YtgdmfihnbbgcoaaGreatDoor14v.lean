/- Contracts of chapter 14: the classes, the least and the greatest filtration. Written by gen14v.py. -/
import Derived.Test.YtgdmfihnbbgcoaaGreatDoor14u
import Derived.Test.YtgdmfihnbbgcoaaGreatDoorEE
import Derived.Test.YtgdmfihnbbgcoaaGreatDoorED
import Derived.Test.YtgdmfihnbbgcoaaGreatDoor14t
namespace Go.Proofs.YtgdmfihnbbgcoaaGreatDoor
open Go.RowKit
set_option linter.unusedVariables false
set_option linter.unusedSimpArgs false
theorem afw_le8 (ns us : List Nat) (f : Fm) (h : ns.length ≤ 8) (i : Nat) : (afw ns us f).getD i 0 ≤ 8 := by
  rcases Nat.lt_or_ge i (afw ns us f).length with hi | hi
  · have := ((dvd_fw (ky ns us f (enc f).length) ns.length).2.1 i (by rw [afw_length] at hi; exact hi)).1
    have h2 : (afw ns us f).getD i 0 < ns.length := this
    omega
  · rw [List.getD_eq_getElem?_getD, List.getElem?_eq_none hi]; simp
theorem gre_gp (ns us : List Nat) (f : Fm) : lnk (acn ns us f) (acn ns us f) (gp (may (mds ns us f (enc f).length) false) false (afw ns us f)) = gre ns us f := by
  rw [gre_grt]
  unfold grt
  refine lnk_congr fun x _ y _ => ?_
  simp [gp]
end Go.Proofs.YtgdmfihnbbgcoaaGreatDoor

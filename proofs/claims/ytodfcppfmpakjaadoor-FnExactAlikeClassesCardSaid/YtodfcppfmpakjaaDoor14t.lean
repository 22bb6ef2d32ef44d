/- Contracts of chapter 14, of the reference: l14Greatest. Written by gen14t.py. -/
import Derived.Test.YtodfcppfmpakjaaDoorED
import Derived.Test.YtodfcppfmpakjaaDoorSB
import Derived.Test.YtodfcppfmpakjaaDoorSch
namespace Go.Proofs.YtodfcppfmpakjaaDoor
open Go.RowKit
set_option linter.unusedVariables false
set_option linter.unusedSimpArgs false
theorem lnk_suc (n k : Nat) (p : Nat → Nat → Bool) : li (lnk (n + 1) k p) = li (lnk n k p) ++ [((msk (p n) k : Nat) : Int)] := by
  unfold lnk li
  rw [List.range_succ, List.map_append, List.map_append]
  rfl
/-- the relation between the worlds i and j of a list that l14Greatest asks for -/
def gp (q : Nat → Nat → Bool) (both : Bool) (fs : List Nat) (i j : Nat) : Bool := q (fs.getD i 0) (fs.getD j 0) && (!both || q (fs.getD j 0) (fs.getD i 0))
end Go.Proofs.YtodfcppfmpakjaaDoor

/- Joined of several texts: 03m, 03s, 03t, 03g, 03c, 03r, 03u. -/
import Derived.Test.YtgkogfjifcfkoaaGreatY03
import Derived.Test.YtgkogfjifcfkoaaGreatY01
import Derived.Test.YtgkogfjifcfkoaaGreatY02
import Derived.Lib.AppendZeros
import Derived.Laws.CopyOwn
import Derived.Deep.RegionLaw
namespace Go.Proofs.YtgkogfjifcfkoaaGreat
open Go.RowKit
set_option linter.unusedVariables false
set_option linter.unusedSimpArgs false
/- Contracts of math/bits.Mul at small numbers, and of slices.Repeat at one node. -/
/- Contracts of the reference's builders of formulas: l02False, l02Pre, l02Pair, l02Not, l32Boxes, l32Rank, l02Made. -/
/- Contracts of the reference's l32Rank, l02Made, RankFormula. -/
/- Contracts of slices.Grow at nil and of slices.Concat, at nodes. -/
/- Contract of slices.Concat at nodes. -/
/- Contract of slices.Repeat at one node: copies of elements of two cells. -/
/- Contracts of the program's builders of formulas: falsum, join, negation, boxes, rankFormula, limited, RankFormula. -/
theorem Sl2.three {α : Type} {K : Cod α} {w : World} {A B C : Option Addr} {n c m d p q : Nat} {xs ys zs : List α} (h : Sl K w (.slice A n c) xs) (h' : Sl K w (.slice B m d) ys) (h'' : Sl K w (.slice C p q) zs) (e : TypeId) (g : Nat) (hg : g = w.heap.size) :
    Sl2 K (w.alloc (.cells #[.slice A n c, .slice B m d, .slice C p q] e)) (.slice (some ⟨g, 0, none⟩) 3 3) [xs, ys, zs] := by
  subst hg
  refine ⟨[⟨A, n, c⟩, ⟨B, m, d⟩, ⟨C, p, q⟩], (Ow.lit (K := cH) (e := e) (B := w.heap.size) [⟨A, n, c⟩, ⟨B, m, d⟩, ⟨C, p, q⟩] rfl rfl (Nat.le_refl _)).sl, rfl, fun i a b => ?_⟩
  rcases (show i = 0 ∨ i = 1 ∨ i = 2 by simp at a; omega) with rfl | rfl | rfl
  · exact h.alloc _
  · exact h'.alloc _
  · exact h''.alloc _
end Go.Proofs.YtgkogfjifcfkoaaGreat

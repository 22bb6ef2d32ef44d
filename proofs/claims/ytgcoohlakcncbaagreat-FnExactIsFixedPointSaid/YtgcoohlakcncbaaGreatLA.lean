/- Joined of several texts: LI, LF. -/
import Derived.Test.YtgcoohlakcncbaaGreatMem
import Derived.BigQuiet
import Derived.Deep.QuietTactic
import Derived.StillTailTactics
import Derived.WalkLawsBesides
import Derived.WalkSpells
namespace Go.Proofs.YtgcoohlakcncbaaGreat
open Go.RowKit
set_option linter.unusedVariables false
set_option linter.unusedSimpArgs false
/- Contracts of the laws' own small functions on []int64: size, copy, comparison, marks. -/

theorem ty_int64 : Ty Tryz.prog 50 2 (.int .i64 0) 1 8 := Ty.mk' Tryz.underlying50 (by kernel_rfl) rfl (by decide)
theorem Sl.atI {w : World} {A : Option Addr} {n c : Nat} {xs : List Int} (h : Sl cI w (.slice A n c) xs) {k : Nat} (hk : k < xs.length) :
    ∃ b o, A = some ⟨b, o, none⟩ ∧ b < w.heap.size ∧ w.cell? ⟨b, o + k, none⟩ = some (.int .i64 xs[k]) := by
  obtain ⟨b, o, hA, hb, hc⟩ := h.cell hk
  have := hc 0 (.int .i64 xs[k]) rfl
  exact ⟨b, o, hA, hb, by simpa [cI] using this⟩

/-- what is left of a size -/
def szL (l n : Int) : Int := if l - n < 0 then -1 else l - n
theorem szL_neg {l n : Int} (h : l - n < 0) : szL l n = -1 := if_pos h
theorem szL_pos {l n : Int} (h : ¬ l - n < 0) : szL l n = l - n := if_neg h

/- Contracts of the laws' own functions on Frames and Traces: comparison of alike ones, marks. -/
end Go.Proofs.YtgcoohlakcncbaaGreat

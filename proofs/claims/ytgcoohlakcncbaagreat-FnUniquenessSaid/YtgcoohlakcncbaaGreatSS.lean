/- The laws' own functions on lists of strings in the one form. -/
import Derived.Test.YtgcoohlakcncbaaGreatLB
import Derived.Test.YtgcoohlakcncbaaGreatSch
import Derived.StillTailTactics
import Derived.WalkSpells
import Derived.WalkLawsBesides
import Derived.Lib.SlBytesConst
namespace Go.Proofs.YtgcoohlakcncbaaGreat
open Go.RowKit
set_option linter.unusedVariables false
set_option linter.unusedSimpArgs false
theorem ty_strL : Ty Tryz.prog 38 9 (.string ⟨#[]⟩) 1 16 := Ty.mk' Tryz.underlying38 (by kernel_rfl) rfl (by decide)
theorem Sl.atSS {w : World} {A : Option Addr} {n c : Nat} {xs : List ByteArray} (h : Sl cS w (.slice A n c) xs) {k : Nat} (hk : k < xs.length) :
    ∃ b o, A = some ⟨b, o, none⟩ ∧ b < w.heap.size ∧ w.cell? ⟨b, o + k, none⟩ = some (.string xs[k]) := by
  obtain ⟨b, o, hA, hb, hc⟩ := h.cell hk
  have := hc 0 (.string xs[k]) rfl
  exact ⟨b, o, hA, hb, by simpa [cS] using this⟩
def dgt (d : Nat) : ByteArray := ⟨#[UInt8.ofNat (48 + d)]⟩
def dgs : Nat → Nat → ByteArray → ByteArray
  | 0, _, acc => acc
  | fu + 1, n, acc => if n = 0 then acc else dgs fu (n / 10) (dgt (n % 10) ++ acc)
def mtx (k : Nat) : ByteArray := (⟨#[109]⟩ : ByteArray) ++ dgs k k ⟨#[]⟩
theorem dgs_step (fu n : Nat) (acc : ByteArray) (h : n ≠ 0) (hf : n ≤ fu) : ∃ fu', n / 10 ≤ fu' ∧ dgs fu n acc = dgs fu' (n / 10) (dgt (n % 10) ++ acc) := by
  cases fu with
  | zero => omega
  | succ fu => exact ⟨fu, by omega, by rw [dgs, if_neg h]⟩
theorem dgs_zero (fu : Nat) (acc : ByteArray) : dgs fu 0 acc = acc := by
  cases fu with
  | zero => rfl
  | succ fu => rw [dgs, if_pos rfl]
end Go.Proofs.YtgcoohlakcncbaaGreat

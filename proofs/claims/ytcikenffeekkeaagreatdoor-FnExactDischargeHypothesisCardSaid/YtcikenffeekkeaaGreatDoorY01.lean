/- Joined of several texts: LI, LF. -/
import Derived.Test.YtcikenffeekkeaaGreatDoorY00
import Derived.BigQuiet
import Derived.Deep.QuietTactic
import Derived.StillTailTactics
import Derived.WalkLawsBesides
import Derived.WalkSpells
namespace Go.Proofs.YtcikenffeekkeaaGreatDoor
open Go.RowKit
set_option linter.unusedVariables false
set_option linter.unusedSimpArgs false
/- Contracts of the laws' own small functions on []int64: size, copy, comparison, marks. -/

theorem ty_int64 : Ty Tryz.prog 54 2 (.int .i64 0) 1 8 := Ty.mk' Tryz.underlying54 (by kernel_rfl) rfl (by decide)
theorem Sl.atI {w : World} {A : Option Addr} {n c : Nat} {xs : List Int} (h : Sl cI w (.slice A n c) xs) {k : Nat} (hk : k < xs.length) :
    ∃ b o, A = some ⟨b, o, none⟩ ∧ b < w.heap.size ∧ w.cell? ⟨b, o + k, none⟩ = some (.int .i64 xs[k]) := by
  obtain ⟨b, o, hA, hb, hc⟩ := h.cell hk
  have := hc 0 (.int .i64 xs[k]) rfl
  exact ⟨b, o, hA, hb, by simpa [cI] using this⟩

/-- what is left of a size -/
def szL (l n : Int) : Int := if l - n < 0 then -1 else l - n
theorem szL_neg {l n : Int} (h : l - n < 0) : szL l n = -1 := if_pos h
theorem szL_pos {l n : Int} (h : ¬ l - n < 0) : szL l n = l - n := if_neg h

/-- the numbers k, k + 1 .. -/
def numL : Nat → Int → List Int
  | 0, _ => []
  | n + 1, k => k :: numL n (k + 1)
theorem numL_length (n : Nat) (k : Int) : (numL n k).length = n := by
  induction n generalizing k with
  | zero => rfl
  | succ n ih => simp [numL, ih]
theorem numL_snoc (n : Nat) (k : Int) : numL (n + 1) k = numL n k ++ [k + n] := by
  induction n generalizing k with
  | zero => simp [numL]
  | succ n ih =>
    rw [numL, ih (k + 1), numL, List.cons_append]
    congr 3
    omega
theorem set_numL (xs : List Int) (k : Int) (j : Nat) (h : j < xs.length) : (numL j k ++ xs.drop j).set j (k + j) = numL (j + 1) k ++ xs.drop (j + 1) := by
  rw [List.set_append, if_neg (by rw [numL_length]; omega), numL_length, Nat.sub_self, List.drop_eq_getElem_cons h, List.set_cons_zero, numL_snoc]
  simp

/-- are the marks still there? -/
def heldL : List Int → Int → Int
  | [], k => k
  | x :: xs, k => if x = k then heldL xs (k + 1) else -1
theorem heldL_numL (n : Nat) (k : Int) : heldL (numL n k) k = k + n := by
  induction n generalizing k with
  | zero => simp [numL, heldL]
  | succ n ih => rw [numL, heldL, if_pos rfl, ih]; omega
theorem heldL_drop (xs : List Int) (j : Nat) (k : Int) (h : j < xs.length) : heldL (xs.drop j) (k + j) = if xs[j] = k + j then heldL (xs.drop (j + 1)) (k + (j + 1 : Nat)) else -1 := by
  rw [List.drop_eq_getElem_cons h, heldL]
  rw [show k + (j : Int) + 1 = k + ((j + 1 : Nat) : Int) from by omega]

/- Contracts of the laws' own functions on Frames and Traces: comparison of alike ones, marks. -/
end Go.Proofs.YtcikenffeekkeaaGreatDoor

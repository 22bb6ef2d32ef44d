/- Contracts of chapter 2: the text of a formula, of the program. -/
import Derived.Test.YtcikenffeekkeaaGreatDoorY10
import Derived.Test.YtcikenffeekkeaaGreatDoorY09
import Derived.Test.YtcikenffeekkeaaGreatDoorY17
import Derived.Test.YtcikenffeekkeaaGreatDoorY11
namespace Go.Proofs.YtcikenffeekkeaaGreatDoor
open Go.RowKit
set_option linter.unusedVariables false
set_option linter.unusedSimpArgs false
def kd : Fm → Int | .var s => 0 | .fls => 1 | .bin k a b => k.i | .un k a => k.i
theorem kd_cell {w : World} {A : Option Addr} {n c : Nat} {f : Fm} (h : Sl cN w (.slice A n c) (enc f)) : ∃ b o y, A = some ⟨b, o, none⟩ ∧ b < w.heap.size ∧ w.cell? ⟨b, o, none⟩ = some (.int .i64 (kd f)) ∧ w.cell? ⟨b, o + 1, none⟩ = some (.int .i64 y) := by
  cases f with
  | var s => obtain ⟨b, o, hA, hb, h0, h1⟩ := h.atN0; exact ⟨b, o, _, hA, hb, h0, h1⟩
  | fls => obtain ⟨b, o, hA, hb, h0, h1⟩ := (show Sl cN w (.slice A n c) [(1, 0)] from h).atN0; exact ⟨b, o, _, hA, hb, h0, h1⟩
  | bin k a b => obtain ⟨b', o, hA, hb, h0, h1⟩ := (show Sl cN w (.slice A n c) ((k.i, 0) :: (enc a ++ enc b)) from h).atN0; exact ⟨b', o, _, hA, hb, h0, h1⟩
  | un k a => obtain ⟨b', o, hA, hb, h0, h1⟩ := (show Sl cN w (.slice A n c) ((k.i, 0) :: enc a) from h).atN0; exact ⟨b', o, _, hA, hb, h0, h1⟩
theorem enc_pos' (f : Fm) : 1 ≤ (enc f).length := enc_pos f
end Go.Proofs.YtcikenffeekkeaaGreatDoor

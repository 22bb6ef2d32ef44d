/- Contract of the program's formula of a Trace. -/
import Derived.Test.Ytbejakkcdbhmaaa03y
namespace Go.Proofs.Ytbejakkcdbhmaaa
open Go.RowKit
set_option linter.unusedVariables false
set_option linter.unusedSimpArgs false
/-- the part of a rank, and the parts of a Trace -/
def elL (b : Bool) (n : Nat) : List Nd := if b then rankL n else [(4, 0)] ++ rankL n ++ [(1, 0)]
def formL (b : Bool) (xs : List Int) : List (List Nd) := xs.map fun x => elL b x.toNat
theorem formL_succ (b : Bool) {xs : List Int} {j : Nat} (h : j < xs.length) : formL b (xs.take (j + 1)) = formL b (xs.take j) ++ [elL b xs[j].toNat] := by
  unfold formL
  rw [List.take_succ_eq_append_getElem h, List.map_append]
  rfl
theorem elL_length (b : Bool) {n : Nat} (h : n ≤ 60) : (elL b n).length ≤ 200 := by
  have := rankL_length n
  unfold elL
  split
  · omega
  · simp; omega
/-- the list of all joined, by the program's or the reference's way -/
def outL (b : Bool) (xs : List Int) : List Nd := if xs.length = 0 then joinE (if b then 3 else 2) else joinL (if b then 3 else 2) (formL b xs)
/-- the header slice with one header more: the step of both loops -/
theorem Ow2.push {B : Nat} {w : World} {v : Value} {xss : List (List Nd)} {A : Option Addr} {c : Nat} {xs : List Nd} {B2 : Nat}
    (h : Ow2 B w v xss) (hu : Ow cN 95 B2 w (.slice A xs.length c) xs) (hB : ∀ k, v.ownBlock = some k → k < B2) :
    ∃ hs : List Hd, Ow cH 24 B w v hs ∧ hs.length = xss.length ∧
      ∀ w' v', Ow cH 24 B w' v' (hs ++ [⟨A, xs.length, c⟩]) → (w.alloc (.cells #[.slice A xs.length c] 24)).grownBy w' v.ownBlock →
        (v'.ownBlock = v.ownBlock ∨ v'.ownBlock = some (w.alloc (.cells #[.slice A xs.length c] 24)).heap.size) → Ow2 B w' v' (xss ++ [xs]) := by
  have ha := h.below ((Below.refl _ _).alloc (Nat.le_refl _) (.cells #[.slice A xs.length c] 24))
  obtain ⟨hs, h1, h2, h3⟩ := h
  have hlt : ∀ k, (Value.slice A xs.length c).ownBlock = some k → B2 ≤ k ∧ k < w.heap.size := hu.block
  refine ⟨hs, h1, h2, fun w' v' ho hg hat => ?_⟩
  refine Ow2.snoc (hd := ⟨A, xs.length, c⟩) (w := w.alloc (.cells #[.slice A xs.length c] 24)) h2 (fun i a b => ⟨(h3 i a b).1.alloc _, ?_⟩) (hu.sl.alloc _) ?_ ho hg hat
  · rcases (h3 i a b).2 with h | ⟨h, k⟩
    · exact .inl h
    · exact .inr ⟨h, fun j hj => by have := k j hj; simp; omega⟩
  · show (Value.slice A xs.length c).ownBlock = none ∨ _
    cases hq : (Value.slice A xs.length c).ownBlock with
    | none => exact .inl rfl
    | some k =>
      have hk := hlt k hq
      refine .inr ⟨?_, fun j hj => ?_⟩
      · rw [show (Hd.val ⟨A, xs.length, c⟩).ownBlock = some k from hq]
        intro e
        have := hB k e.symm
        omega
      · have hj' : (Value.slice A xs.length c).ownBlock = some j := hj
        have := (hlt j hj').2
        simp; omega
end Go.Proofs.Ytbejakkcdbhmaaa

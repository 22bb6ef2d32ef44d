/- An owned list of lists of nodes: the header slice is the call's own, each header reads. -/
import Derived.Test.Ytbejakkcdbhmaaa03w
namespace Go.Proofs.Ytbejakkcdbhmaaa
open Go.RowKit
set_option linter.unusedVariables false
set_option linter.unusedSimpArgs false
theorem ty_nodes : Ty Try.prog 46 24 (.slice none 0 0) 1 24 := Ty.mk' Try.underlying46 (by kernel_rfl) rfl (by decide)
def Ow2 (B : Nat) (w : World) (v : Value) (xss : List (List Nd)) : Prop :=
  ∃ hs : List Hd, Ow cH 24 B w v hs ∧ hs.length = xss.length ∧ ∀ i (a : i < hs.length) (b : i < xss.length), Sl cN w hs[i].val xss[i] ∧ (hs[i].val.ownBlock = none ∨ (hs[i].val.ownBlock ≠ v.ownBlock ∧ ∀ k, hs[i].val.ownBlock = some k → k < w.heap.size))
theorem Ow2.nil (B : Nat) (w : World) : Ow2 B w (.slice none 0 0) [] := ⟨[], Ow.nil _ _, rfl, fun i a => by simp at a⟩
theorem Ow2.sl2 {B : Nat} {w : World} {v : Value} {xss : List (List Nd)} (h : Ow2 B w v xss) : Sl2 cN w v xss := by
  obtain ⟨hs, h1, h2, h3⟩ := h
  exact ⟨hs, h1.sl, h2, fun i a b => (h3 i a b).1⟩
theorem Ow2.below {B : Nat} {w w' : World} {v : Value} {xss : List (List Nd)} (h : Ow2 B w v xss) (hb : Below w.heap.size w w') : Ow2 B w' v xss := by
  obtain ⟨hs, h1, h2, h3⟩ := h
  refine ⟨hs, h1.below hb, h2, fun i a b => ⟨(h3 i a b).1.below hb, ?_⟩⟩
  rcases (h3 i a b).2 with h | ⟨h, k⟩
  · exact .inl h
  · exact .inr ⟨h, fun j hj => Nat.lt_of_lt_of_le (k j hj) hb.size⟩
/-- one more header, which lies in a block that is not the header slice's -/
theorem Ow2.snoc {B : Nat} {w w' : World} {v v' : Value} {xss : List (List Nd)} {hd : Hd} {xs : List Nd} {hs : List Hd} (hs2 : hs.length = xss.length)
    (h3 : ∀ i (a : i < hs.length) (b : i < xss.length), Sl cN w hs[i].val xss[i] ∧ (hs[i].val.ownBlock = none ∨ (hs[i].val.ownBlock ≠ v.ownBlock ∧ ∀ k, hs[i].val.ownBlock = some k → k < w.heap.size)))
    (hx : Sl cN w hd.val xs) (hne : hd.val.ownBlock = none ∨ (hd.val.ownBlock ≠ v.ownBlock ∧ ∀ k, hd.val.ownBlock = some k → k < w.heap.size))
    (ho : Ow cH 24 B w' v' (hs ++ [hd])) (hg : w.grownBy w' v.ownBlock) (hat : v'.ownBlock = v.ownBlock ∨ v'.ownBlock = some w.heap.size) : Ow2 B w' v' (xss ++ [xs]) := by
  have key : ∀ (u : Value) (ys : List Nd), Sl cN w u ys → (u.ownBlock = none ∨ (u.ownBlock ≠ v.ownBlock ∧ ∀ k, u.ownBlock = some k → k < w.heap.size)) →
      Sl cN w' u ys ∧ (u.ownBlock = none ∨ (u.ownBlock ≠ v'.ownBlock ∧ ∀ k, u.ownBlock = some k → k < w'.heap.size)) := by
    intro u ys hu hn
    refine ⟨hu.grown hg (hn.imp id And.left), ?_⟩
    rcases hn with hn | ⟨hn, hk⟩
    · exact .inl hn
    · refine .inr ⟨?_, fun k e => Nat.lt_of_lt_of_le (hk k e) hg.size⟩
      rcases hat with e | e
      · rw [e]; exact hn
      · rw [e]; intro e2; exact absurd (hk _ e2) (Nat.lt_irrefl _)
  refine ⟨hs ++ [hd], ho, by simp [hs2], fun i a b => ?_⟩
  by_cases hi : i < hs.length
  · rw [List.getElem_append_left hi, List.getElem_append_left (by omega)]
    exact key _ _ (h3 i hi (by omega)).1 (h3 i hi (by omega)).2
  · have e : i = hs.length := by simp at a; omega
    subst e
    have e2 : (xss ++ [xs])[hs.length] = xs := by
      rw [List.getElem_append_right (by omega)]; simp [hs2]
    rw [e2]
    have e3 : (hs ++ [hd])[hs.length] = hd := by simp
    rw [e3]
    exact key _ _ hx hne
end Go.Proofs.Ytbejakkcdbhmaaa

/- Over any program: worlds that follow one another where the blocks of one type from B on may be filled, and nothing else that was there changes; for drawn regions that store into a box of their own (Rel). -/
import Derived.Test.YtgdmfihnbbgcoaaRel
import Derived.Test.YtgdmfihnbbgcoaaMem
namespace Go.Proofs.Ytgdmfihnbbgcoaa
open Go.RowKit
set_option linter.unusedVariables false
/-- what a block of type tid may become is told by GP -/
structure RB (B : Nat) (tid : TypeId) (GP : World → Array Value → Prop) (w w' : World) : Prop where
  os : w'.os = w.os
  tape : w'.tape = w.tape
  output : w'.output = w.output
  size : w.heap.size ≤ w'.heap.size
  block : ∀ k, k < w.heap.size → w'.heap[k]? = w.heap[k]? ∨ (B ≤ k ∧ ∃ cs cs', Blk w k tid cs ∧ Blk w' k tid cs' ∧ cs.size = cs'.size ∧ GP w' cs')
section
variable {B : Nat} {tid : TypeId} {GP : World → Array Value → Prop} {w w' : World}
theorem RB.of_below (h : Below w.heap.size w w') : RB B tid GP w w' := ⟨h.os, h.tape, h.output, h.size, fun k hk => .inl (h.block k hk)⟩
theorem RB.below (h : RB B tid GP w w') (hB : w.heap.size ≤ B) : Below w.heap.size w w' :=
  ⟨h.os, h.tape, h.output, h.size, fun k hk => (h.block k hk).elim id fun h' => by have := h'.1; omega⟩
theorem RB.lowBelow {b : Nat} (h : RB B tid GP w w') (hb : b ≤ B) (hw : b ≤ w.heap.size) : Below b w w' :=
  ⟨h.os, h.tape, h.output, h.size, fun k hk => (h.block k (by omega)).elim id fun h' => by have := h'.1; omega⟩
theorem Ow.rb {α : Type} {K : Cod α} {e : TypeId} {b : Nat} {v : Value} {xs : List α} (h : Ow K e b w v xs) (hR : RB B tid GP w w') (ne : e ≠ tid) : Ow K e b w' v xs := by
  obtain ⟨hv, h1, h2⟩ := h
  refine ⟨hv, h1, ?_⟩
  rcases h2 with h2 | ⟨g, cap, cur, hg, hB, hr, hh⟩
  · exact .inl h2
  · refine .inr ⟨g, cap, cur, hg, hB, ?_, hh⟩
    rcases hR.block g (Array.getElem?_eq_some_iff.1 hr).1 with h3 | ⟨-, cs, cs', h3, -⟩
    · exact h3.trans hr
    · have := Option.some.inj (h3.symm.trans hr)
      injection this with _ h4 _
      exact absurd h4.symm ne
theorem RB.box (h : RB B tid GP w w') {g n : Nat} (hb : ∃ cs : Array Value, cs.size = n ∧ Blk w g tid cs) : ∃ cs : Array Value, cs.size = n ∧ Blk w' g tid cs := by
  obtain ⟨cs, hn, hk⟩ := hb
  rcases h.block g hk.lt with h3 | ⟨-, c1, c2, h3, h4, h5, -⟩
  · exact ⟨cs, hn, h3.trans hk⟩
  · have := Option.some.inj (h3.symm.trans hk)
    injection this with h6 _ _
    exact ⟨c2, by rw [← h5, h6]; exact hn, h4⟩
theorem RB.good (hGP : ∀ w w' cs, GP w cs → RB B tid GP w w' → GP w' cs) (h : RB B tid GP w w') {g : Nat} (hb : ∃ cs, GP w cs ∧ Blk w g tid cs) : ∃ cs, GP w' cs ∧ Blk w' g tid cs := by
  obtain ⟨cs, hn, hk⟩ := hb
  rcases h.block g hk.lt with h3 | ⟨-, c1, c2, h3, h4, h5, h6⟩
  · exact ⟨cs, hGP _ _ _ hn h, h3.trans hk⟩
  · exact ⟨c2, h6, h4⟩
theorem RB.steps (hGP : ∀ w w' cs, GP w cs → RB B tid GP w w' → GP w' cs) : Steps (RB B tid GP) := by
  refine ⟨fun w => RB.of_below (Below.refl _ _), fun a b c h k => ⟨k.os.trans h.os, k.tape.trans h.tape, k.output.trans h.output, Nat.le_trans h.size k.size, fun i hi => ?_⟩, fun a b h => h.size⟩
  have hi' := Nat.lt_of_lt_of_le hi h.size
  rcases h.block i hi with h1 | ⟨h0, c1, c2, h1, h2, h3, h4⟩
  · rcases k.block i hi' with k1 | ⟨k0, d1, d2, k1, k2, k3, k4⟩
    · exact .inl (k1.trans h1)
    · exact .inr ⟨k0, d1, d2, h1.symm.trans k1, k2, k3, k4⟩
  · rcases k.block i hi' with k1 | ⟨k0, d1, d2, k1, k2, k3, k4⟩
    · exact .inr ⟨h0, c1, c2, h1, k1.trans h2, h3, hGP _ _ _ h4 k⟩
    · have := Option.some.inj (k1.symm.trans h2)
      injection this with h6 _ _
      exact .inr ⟨h0, c1, d2, h1, k2, by rw [h3, ← h6]; exact k3, k4⟩
/-- the store that fills the box -/
theorem RB.fill {w2 : World} {g : Nat} {cs cs' : Array Value} (hB : B ≤ g) (hk : Blk w g tid cs) (hk' : Blk w2 g tid cs') (hs : cs.size = cs'.size) (hg : GP w2 cs') (hb : ∀ k, k ≠ g → w2.heap[k]? = w.heap[k]?) (hz : w2.heap.size = w.heap.size) (ho : w2.os = w.os) (ht : w2.tape = w.tape) (hout : w2.output = w.output) : RB B tid GP w w2 :=
  ⟨ho, ht, hout, by rw [hz]; exact Nat.le_refl _, fun k hkk => by
    by_cases e : k = g
    · subst e; exact .inr ⟨hB, cs, cs', hk, hk', hs, hg⟩
    · exact .inl (hb k e)⟩
theorem Blk.ne_own {α : Type} {K : Cod α} {e : TypeId} {b g : Nat} {cs : Array Value} {v : Value} {xs : List α} (hk : Blk w g tid cs) (h : Ow K e b w v xs) (ne : e ≠ tid) : v.ownBlock ≠ some g := by
  intro hv
  rcases h.2.2 with ⟨h2, -⟩ | ⟨g', cap, cur, hg, hB, hr, hh⟩
  · rw [h2] at hv; cases hv
  · rw [hg] at hv
    injection hv with hv
    have hv' : g' = g := hv
    subst hv'
    have := Option.some.inj (hk.symm.trans hr)
    injection this with _ h4 _
    exact ne h4.symm
theorem arr2 {cs : Array Value} (h : cs.size = 2) : ∃ a b, cs = #[a, b] := by
  obtain ⟨l⟩ := cs
  rcases l with _ | ⟨a, _ | ⟨b, _ | ⟨c, l⟩⟩⟩
  · simp at h
  · simp at h
  · exact ⟨a, b, rfl⟩
  · simp at h
theorem arr3 {cs : Array Value} (h : cs.size = 3) : ∃ a b c, cs = #[a, b, c] := by
  obtain ⟨l⟩ := cs
  rcases l with _ | ⟨a, _ | ⟨b, _ | ⟨c, _ | ⟨d, l⟩⟩⟩⟩
  · simp at h
  · simp at h
  · simp at h
  · exact ⟨a, b, c, rfl⟩
  · simp at h
end
end Go.Proofs.Ytgdmfihnbbgcoaa

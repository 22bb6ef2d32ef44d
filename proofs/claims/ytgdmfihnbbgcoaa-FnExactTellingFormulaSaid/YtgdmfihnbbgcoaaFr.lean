/- Over any program: worlds that differ in some blocks only, told by a set of blocks that may grow; headers that read in the first world. -/
import Derived.Test.YtgdmfihnbbgcoaaLB
import Derived.Test.YtgdmfihnbbgcoaaM33o
namespace Go.Proofs.Ytgdmfihnbbgcoaa
open Go.RowKit
set_option linter.unusedVariables false
set_option linter.unusedSimpArgs false
/-- w' is w but for the blocks of T, which lie from B on, and new ones -/
structure Fr (B : Nat) (T : Nat → Prop) (w w' : World) : Prop where
  os : w'.os = w.os
  tape : w'.tape = w.tape
  output : w'.output = w.output
  size : w.heap.size ≤ w'.heap.size
  block : ∀ k, k < w.heap.size → (k < B ∨ ¬ T k) → w'.heap[k]? = w.heap[k]?
/-- T' may be what T has become from w on -/
def Tgr (T : Nat → Prop) (w : World) (T' : Nat → Prop) : Prop := ∀ k, T' k → T k ∨ w.heap.size ≤ k
theorem Tgr.refl (T : Nat → Prop) (w : World) : Tgr T w T := fun k h => .inl h
theorem Tgr.trans {T T1 T2 : Nat → Prop} {w w1 : World} (h : Tgr T w T1) (hs : w.heap.size ≤ w1.heap.size) (k : Tgr T1 w1 T2) : Tgr T w T2 := fun i hi => (k i hi).elim (h i) fun hh => .inr (Nat.le_trans hs hh)
section
variable {B : Nat} {T T1 : Nat → Prop} {w w1 w2 : World}
theorem Fr.refl (B : Nat) (T : Nat → Prop) (w : World) : Fr B T w w := ⟨rfl, rfl, rfl, Nat.le_refl _, fun _ _ _ => rfl⟩
theorem Fr.trans (h : Fr B T w w1) (hT : Tgr T w T1) (k : Fr B T1 w1 w2) : Fr B T w w2 :=
  ⟨k.os.trans h.os, k.tape.trans h.tape, k.output.trans h.output, Nat.le_trans h.size k.size, fun i hi hn =>
    (k.block i (Nat.lt_of_lt_of_le hi h.size) (hn.imp id fun hn hi1 => (hT i hi1).elim hn fun hh => by omega)).trans (h.block i hi hn)⟩
theorem Fr.of_below (h : Below w.heap.size w w1) : Fr B T w w1 := ⟨h.os, h.tape, h.output, h.size, fun k hk _ => h.block k hk⟩
theorem Fr.of_grown {row : Option Nat} (h : w.grownBy w1 row) (hr : ∀ k, row = some k → B ≤ k ∧ T k) : Fr B T w w1 :=
  ⟨h.os, h.tape, h.output, h.size, fun k hk hn => h.block k hk fun e => by have := hr k e.symm; exact hn.elim (by omega) fun hn => hn this.2⟩
theorem Fr.set_ {p : Addr} (u : Value) (hp : B ≤ p.block ∧ T p.block) : Fr B T w (w.setCell p u) :=
  ⟨rfl, rfl, rfl, by simp [World.setCell], fun k hk hn => Below.heap_setCell w p u k fun e => by subst e; exact hn.elim (by omega) fun hn => hn hp.2⟩
theorem Fr.below {b : Nat} (h : Fr B T w w1) (hb : b ≤ B) (hs : b ≤ w.heap.size) : Below b w w1 := ⟨h.os, h.tape, h.output, h.size, fun k hk => h.block k (by omega) (.inl (by omega))⟩
theorem Fr.thenBelow {w0 : World} {b : Nat} (h0 : Below b w0 w) (h : Fr B T w w1) (hb : b ≤ B) (hs : b ≤ w.heap.size) : Below b w0 w1 := h0.trans (h.below hb hs)
/-- where nothing may change, all of the world stands -/
theorem Fr.all (h : Fr B T w w1) (hT : ∀ k, ¬ T k) : Below w.heap.size w w1 := ⟨h.os, h.tape, h.output, h.size, fun k hk => h.block k hk (.inr (hT k))⟩
theorem Fr.monoT (h : Fr B T w w1) (hT : ∀ k, T k → T1 k) : Fr B T1 w w1 := ⟨h.os, h.tape, h.output, h.size, fun k hk hn => h.block k hk (hn.imp id fun hn hi => hn (hT k hi))⟩
theorem Ow.fr {α : Type} {K : Cod α} {e : TypeId} {b : Nat} {v : Value} {xs : List α} (h : Ow K e b w v xs) (hf : Fr B T w w1) (hn : ∀ k, v.ownBlock = some k → ¬ T k) : Ow K e b w1 v xs := by
  refine ⟨h.1, h.2.1, ?_⟩
  rcases h.2.2 with h2 | ⟨g, cap, cur, hv, hB, hg, r⟩
  · exact .inl h2
  · exact .inr ⟨g, cap, cur, hv, hB, (hf.block g (Array.getElem?_eq_some_iff.1 hg).1 (.inr (hn g (by rw [hv]; rfl)))).trans hg, r⟩
theorem Blk.fr {g : Nat} {t : TypeId} {cs : Array Value} (h : Blk w g t cs) (hf : Fr B T w w1) (hn : ¬ T g) : Blk w1 g t cs := (hf.block g h.lt (.inr hn)).trans h
theorem Sl.fr0 {α : Type} {K : Cod α} {w0 : World} {v : Value} {xs : List α} (h : Sl K w0 v xs) (h0 : Below w0.heap.size w0 w) : Sl K w v xs := h.below h0
end
/-- the headers hs read in w0 as the formulas O -/
def Hs (w0 : World) (hs : List Hd) (O : List Fm) : Prop := hs.length = O.length ∧ ∀ i (a : i < hs.length) (b : i < O.length), Sl cN w0 hs[i].val (enc O[i])
section
variable {w0 w : World} {hs : List Hd} {O : List Fm}
theorem Hs.nil : Hs w0 [] [] := ⟨rfl, fun i a => by simp at a⟩
theorem Hs.snoc (h : Hs w0 hs O) {x : Hd} {g : Fm} (hx : Sl cN w0 x.val (enc g)) : Hs w0 (hs ++ [x]) (O ++ [g]) := by
  obtain ⟨h1, h2⟩ := h
  refine ⟨by simp [h1], fun i a b => ?_⟩
  by_cases hi : i < hs.length
  · rw [List.getElem_append_left hi, List.getElem_append_left (by omega)]
    exact h2 i hi (by omega)
  · have e : i = hs.length := by simp at a; omega
    subst e
    rw [List.getElem_append_right (Nat.le_refl _), List.getElem_append_right (by omega)]
    simpa using hx
theorem Hs.below (h : Hs w0 hs O) (hb : Below w0.heap.size w0 w) : Hs w hs O := ⟨h.1, fun i a b => (h.2 i a b).below hb⟩
theorem Hs.sl2 {v : Value} (h : Hs w hs O) (hv : Sl cH w v hs) : Sl2 cN w v (O.map enc) := ⟨hs, hv, by simp [h.1], fun i a b => by simpa using h.2 i a (by simpa using b)⟩
theorem Sl2.toHs {v : Value} (h : Sl2 cN w v (O.map enc)) : ∃ hs, Sl cH w v hs ∧ Hs w hs O := by
  obtain ⟨hs, h1, h2, h3⟩ := h
  exact ⟨hs, h1, by simpa using h2, fun i a b => by have := h3 i a (by simpa using b); rwa [List.getElem_map] at this⟩
theorem Hs.set_ (h : Hs w0 hs O) {i : Nat} {x : Hd} {g : Fm} (hx : Sl cN w0 x.val (enc g)) : Hs w0 (hs.set i x) (O.set i g) := by
  obtain ⟨h1, h2⟩ := h
  refine ⟨by simp [h1], fun j a b => ?_⟩
  rw [List.getElem_set, List.getElem_set]
  by_cases hij : i = j
  · rw [if_pos hij, if_pos hij]; exact hx
  · rw [if_neg hij, if_neg hij]; exact h2 j (by simpa using a) (by simpa using b)
end
theorem isin_range (O : List Fm) (g : Fm) : (List.range O.length).any (fun i => decide (enc (O.getD i .fls) = enc g)) = isin O g := any_range O .fls fun h => decide (enc h = enc g)
theorem ix_fidx {O : List Fm} {g : Fm} (h : ix O g < O.length) : fidx (fun i => decide (enc (O.getD i .fls) = enc g)) O.length = (ix O g : Nat) := by
  refine fidx_some h (fun i hi => ?_) (by rw [ix_at h]; exact decide_eq_true rfl)
  have := List.not_of_lt_findIdx (show i < O.findIdx (fun h => decide (enc h = enc g)) from hi)
  rw [List.getD_eq_getElem?_getD, List.getElem?_eq_getElem (by omega)]
  simpa using this
end Go.Proofs.Ytgdmfihnbbgcoaa

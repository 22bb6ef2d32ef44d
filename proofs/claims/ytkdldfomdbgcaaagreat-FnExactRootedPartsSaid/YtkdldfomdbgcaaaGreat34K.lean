/- Worlds alike but for some blocks: what a closure that writes to captured variables leaves as it was. -/
import Derived.Test.YtkdldfomdbgcaaaGreatM34
namespace Go.Proofs.YtkdldfomdbgcaaaGreat
open Go.RowKit
set_option linter.unusedVariables false
set_option linter.unusedSimpArgs false
/-- the blocks that were there are as they were, but for those of S -/
structure KpS (S : Nat → Prop) (w w' : World) : Prop where
  os : w'.os = w.os
  tape : w'.tape = w.tape
  output : w'.output = w.output
  size : w.heap.size ≤ w'.heap.size
  block : ∀ k, k < w.heap.size → ¬ S k → w'.heap[k]? = w.heap[k]?
theorem KpS.refl (S : Nat → Prop) (w : World) : KpS S w w := ⟨rfl, rfl, rfl, Nat.le_refl _, fun _ _ _ => rfl⟩
theorem KpS.trans {S : Nat → Prop} {a b c : World} (h : KpS S a b) (k : KpS S b c) : KpS S a c :=
  ⟨k.os.trans h.os, k.tape.trans h.tape, k.output.trans h.output, Nat.le_trans h.size k.size, fun i hi hn => (k.block i (Nat.lt_of_lt_of_le hi h.size) hn).trans (h.block i hi hn)⟩
theorem KpS.of {S : Nat → Prop} {w w' : World} (h : Below w.heap.size w w') : KpS S w w' := ⟨h.os, h.tape, h.output, h.size, fun k hk _ => h.block k hk⟩
theorem KpS.below {S : Nat → Prop} {w w' w2 : World} (h : KpS S w w') (hb : Below w'.heap.size w' w2) : KpS S w w2 := h.trans (KpS.of hb)
theorem KpS.set {S : Nat → Prop} {w w' : World} (h : KpS S w w') {p : Addr} (hp : S p.block) (u : Value) : KpS S w (w'.setCell p u) :=
  h.trans ⟨rfl, rfl, rfl, by simp [World.setCell], fun k hk hn => Below.heap_setCell _ _ _ _ (fun e => hn (e ▸ hp))⟩
theorem KpS.grown {S : Nat → Prop} {w w' w2 : World} (h : KpS S w w') {row : Option Nat} (hg : w'.grownBy w2 row) (hr : ∀ k, row = some k → S k) : KpS S w w2 :=
  h.trans ⟨hg.os, hg.tape, hg.output, hg.size, fun k hk hn => hg.block k hk (fun e => hn (hr k e.symm))⟩
theorem KpS.cell {S : Nat → Prop} {w w' : World} (h : KpS S w w') {p : Addr} (hp : p.block < w.heap.size) (hn : ¬ S p.block) : w'.cell? p = w.cell? p := World.cell?_of_block (w := w) (h.block p.block hp hn)
theorem KpS.frozen {S : Nat → Prop} {w w' : World} (h : KpS S w w') {p : Addr} (hp : p.block < w.heap.size) (hn : ¬ S p.block) : w'.frozen? p = w.frozen? p := World.frozen?_of_block (w := w) (h.block p.block hp hn)
theorem KpS.toBelow {S : Nat → Prop} {w w' : World} {B : Nat} (h : KpS S w w') (hB : B ≤ w.heap.size) (hS : ∀ k, k < B → ¬ S k) : Below B w w' :=
  ⟨h.os, h.tape, h.output, h.size, fun k hk => h.block k (by omega) (hS k hk)⟩
theorem KpS.mono {S T : Nat → Prop} {w w' : World} (h : KpS S w w') (hS : ∀ k, S k → T k) : KpS T w w' :=
  ⟨h.os, h.tape, h.output, h.size, fun k hk hn => h.block k hk (fun e => hn (hS k e))⟩
theorem Sl.keptAt {α : Type} {K : Cod α} {w w' : World} {v : Value} {xs : List α} (h : Sl K w v xs) (hs : w.heap.size ≤ w'.heap.size) (hk : ∀ p : Addr, p.block < w.heap.size → v.ownBlock = some p.block → w'.cell? p = w.cell? p) : Sl K w' v xs := by
  obtain ⟨A, c, rfl, hc, hm, hr⟩ := h
  refine ⟨A, c, rfl, hc, hm, ?_⟩
  rcases hr with hr | ⟨b, o, rfl, hb, hcell⟩
  · exact .inl hr
  · exact .inr ⟨b, o, rfl, by omega, fun k x hx => (hk ⟨b, o + k, none⟩ hb rfl).trans (hcell k x hx)⟩
theorem Sl.kps {α : Type} {K : Cod α} {S : Nat → Prop} {w w' : World} {v : Value} {xs : List α} (h : Sl K w v xs) (hk : KpS S w w') (hn : ∀ k, v.ownBlock = some k → ¬ S k) : Sl K w' v xs :=
  h.keptAt hk.size fun p hp hv => hk.cell hp (hn _ hv)
theorem Blk.kps {S : Nat → Prop} {w w' : World} {g : Nat} {t : TypeId} {c : Array Value} (h : Blk w g t c) (hk : KpS S w w') (hn : ¬ S g) : Blk w' g t c := (hk.block g h.lt hn).trans h
theorem Ow.kps {α : Type} {K : Cod α} {e : TypeId} {B : Nat} {S : Nat → Prop} {w w' : World} {v : Value} {xs : List α} (h : Ow K e B w v xs) (hk : KpS S w w') (hn : ∀ k, v.ownBlock = some k → ¬ S k) : Ow K e B w' v xs := by
  have hlt := h.block
  obtain ⟨h0, h1, h2⟩ := h
  refine ⟨h0, h1, ?_⟩
  rcases h2 with h2 | ⟨g, cap, cur, hv, hg, hh, r⟩
  · exact .inl h2
  · have e : v.ownBlock = some g := by rw [hv]; rfl
    exact .inr ⟨g, cap, cur, hv, hg, by rw [hk.block g (hlt g e).2 (hn g e)]; exact hh, r⟩
end Go.Proofs.YtkdldfomdbgcaaaGreat

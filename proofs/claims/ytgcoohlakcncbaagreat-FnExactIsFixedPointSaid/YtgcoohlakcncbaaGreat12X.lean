/- A space of types that is being made: its blocks are kept apart by colours. -/
import Derived.Test.YtgcoohlakcncbaaGreat12W
namespace Go.Proofs.YtgcoohlakcncbaaGreat
open Go.RowKit
set_option linter.unusedVariables false
set_option linter.unusedSimpArgs false
/-- worlds alike but for the blocks of a colour -/
def KpC (c : Nat → Nat) (x : Nat) (w w' : World) : Prop := KpS (fun k => c k = x) w w'
theorem KpC.cell {c : Nat → Nat} {x : Nat} {w w' : World} (h : KpC c x w w') {p : Addr} (hp : p.block < w.heap.size ∧ c p.block ≠ x) : w'.cell? p = w.cell? p := KpS.cell h hp.1 hp.2
theorem KpC.of {c : Nat → Nat} {x : Nat} {w w' : World} (h : Below w.heap.size w w') : KpC c x w w' := KpS.of h
theorem KpC.alloc {c : Nat → Nat} {x : Nat} {w w' : World} (h : KpC c x w w') (o : Obj) : KpC c x w (w'.alloc o) := KpS.below h ((Below.refl _ _).alloc (Nat.le_refl _) o)
theorem KpC.grown {c : Nat → Nat} {x : Nat} {w w' w2 : World} (h : KpC c x w w') {row : Option Nat} (hg : w'.grownBy w2 row) (hr : ∀ k, row = some k → c k = x) : KpC c x w w2 := KpS.grown h hg hr
/-- a colouring, with a colour for all that is new -/
def recol (c : Nat → Nat) (n x : Nat) : Nat → Nat := fun k => if k < n then c k else x
theorem recol_lt (c : Nat → Nat) (n x k : Nat) (h : k < n) : recol c n x k = c k := if_pos h
theorem recol_ge (c : Nat → Nat) (n x k : Nat) (h : n ≤ k) : recol c n x k = x := if_neg (by omega)
def spCells (v1 v2 v3 v4 v5 : Value) : Array Value := #[.string ⟨#[71, 76]⟩, v1, v2, v3, v4, v5, .slice none 0 0, .slice none 0 0]
structure SpM (P : List Fm) (B p a b m : Nat) (c : Nat → Nat) (v1 v2 v3 v4 : Value) (hs : List Hd) (W : World) : Prop where
  blk : Blk W p 182 (spCells v1 v2 v3 v4 (.slice none 0 0))
  cp : c p = 1
  bp : B ≤ p
  parts : Sl cS W v1 (P.map txt)
  c1 : ∀ k, v1.ownBlock = some k → c k = 0 ∧ k < W.heap.size
  kinds : Ow cI 2 B W v2 ((P.take a).map kdF)
  c2 : ∀ k, v2.ownBlock = some k → c k = 2
  inner : Ow cH 26 B W v3 hs
  c3 : ∀ k, v3.ownBlock = some k → c k = 3
  hl : hs.length = b
  rows : ∀ i (h : i < hs.length), Sl cN W hs[i].val (enc (P.getD i .fls)).tail ∧ ∀ k, hs[i].val.ownBlock = some k → c k = 5 ∧ k < W.heap.size
  truth : Ow cI 2 B W v4 (trL P m)
  c4 : ∀ k, v4.ownBlock = some k → c k = 4
  low : ∀ k, k < B → c k = 0
theorem SpM.below {P : List Fm} {B p a b m : Nat} {c : Nat → Nat} {v1 v2 v3 v4 : Value} {hs : List Hd} {W W' : World} (h : SpM P B p a b m c v1 v2 v3 v4 hs W) (hb : Below W.heap.size W W') : SpM P B p a b m c v1 v2 v3 v4 hs W' :=
  ⟨h.blk.below hb h.blk.lt, h.cp, h.bp, h.parts.below hb, fun k e => ⟨(h.c1 k e).1, Nat.lt_of_lt_of_le (h.c1 k e).2 hb.size⟩, h.kinds.below hb, h.c2, h.inner.below hb, h.c3, h.hl, fun i hi => ⟨(h.rows i hi).1.below hb, fun k e => ⟨((h.rows i hi).2 k e).1, Nat.lt_of_lt_of_le ((h.rows i hi).2 k e).2 hb.size⟩⟩, h.truth.below hb, h.c4, h.low⟩
theorem SpM.recl {P : List Fm} {B p a b m : Nat} {c : Nat → Nat} {v1 v2 v3 v4 : Value} {hs : List Hd} {W : World} (h : SpM P B p a b m c v1 v2 v3 v4 hs W) (c' : Nat → Nat) (he : ∀ k, k < W.heap.size → c' k = c k) : SpM P B p a b m c' v1 v2 v3 v4 hs W :=
  ⟨h.blk, by rw [he p h.blk.lt]; exact h.cp, h.bp, h.parts, fun k e => ⟨by rw [he k (h.c1 k e).2]; exact (h.c1 k e).1, (h.c1 k e).2⟩, h.kinds, fun k e => by rw [he k (h.kinds.block k e).2]; exact h.c2 k e, h.inner, fun k e => by rw [he k (h.inner.block k e).2]; exact h.c3 k e, h.hl,
    fun i hi => ⟨(h.rows i hi).1, fun k e => ⟨by rw [he k ((h.rows i hi).2 k e).2]; exact ((h.rows i hi).2 k e).1, ((h.rows i hi).2 k e).2⟩⟩, h.truth, fun k e => by rw [he k (h.truth.block k e).2]; exact h.c4 k e, fun k hk => by rw [he k (by have := h.blk.lt; have := h.bp; omega)]; exact h.low k hk⟩
/-- blocks of colours other than x and 1 stay over a growth of x and a store into the space -/
theorem KpC.put {c : Nat → Nat} {x : Nat} {w w' : World} (h : KpC c x w w') {p : Nat} (hp : c p = 1) (i : Nat) (u : Value) : KpS (fun k => c k = x ∨ c k = 1) w (w'.setCell ⟨p, i, none⟩ u) :=
  (KpS.mono (T := fun k => c k = x ∨ c k = 1) h fun k e => Or.inl e).set (p := ⟨p, i, none⟩) (.inr hp) u
theorem keepP {w : World} (p i : Nat) (u : Value) : KpS (fun k => k = p) w (w.setCell ⟨p, i, none⟩ u) := (KpS.refl (fun k => k = p) w).set (p := ⟨p, i, none⟩) rfl u
/-- one kind more -/
theorem SpM.put2 {P : List Fm} {B p a b m : Nat} {c : Nat → Nat} {v1 v2 v3 v4 v2' : Value} {hs : List Hd} {W W1 : World} (h : SpM P B p a b m c v1 v2 v3 v4 hs W) (hk : KpC c 2 W W1) (ho : Ow cI 2 B W1 v2' ((P.take (a + 1)).map kdF)) (hat : ∀ k, v2'.ownBlock = some k → v2.ownBlock = some k ∨ W.heap.size ≤ k) :
    SpM P B p (a + 1) b m (recol c W.heap.size 2) v1 v2' v3 v4 hs (W1.setCell ⟨p, 2, none⟩ v2') := by
  have hS := hk.put h.cp 2 v2'
  have hsz : W.heap.size ≤ (W1.setCell ⟨p, 2, none⟩ v2').heap.size := hS.size
  have hb := ((h.blk.kps hk (by rw [h.cp]; decide)).set_ 2 v2')
  have hpl := h.blk.lt
  refine ⟨hb, by rw [recol_lt _ _ _ _ hpl]; exact h.cp, h.bp, h.parts.kps hS fun k e => by rw [(h.c1 k e).1]; decide, fun k e => ⟨by rw [recol_lt _ _ _ _ (h.c1 k e).2]; exact (h.c1 k e).1, Nat.lt_of_lt_of_le (h.c1 k e).2 hsz⟩, ho.kps (keepP p 2 v2') fun k e e2 => ?_, fun k e => ?_,
    h.inner.kps hS fun k e => by rw [h.c3 k e]; decide, fun k e => by rw [recol_lt _ _ _ _ (h.inner.block k e).2]; exact h.c3 k e, h.hl,
    fun i hi => ⟨(h.rows i hi).1.kps hS fun k e => by rw [((h.rows i hi).2 k e).1]; decide, fun k e => ⟨by rw [recol_lt _ _ _ _ ((h.rows i hi).2 k e).2]; exact ((h.rows i hi).2 k e).1, Nat.lt_of_lt_of_le ((h.rows i hi).2 k e).2 hsz⟩⟩,
    h.truth.kps hS fun k e => by rw [h.c4 k e]; decide, fun k e => by rw [recol_lt _ _ _ _ (h.truth.block k e).2]; exact h.c4 k e, fun k hk => by rw [recol_lt _ _ _ _ (by have := h.blk.lt; have := h.bp; omega)]; exact h.low k hk⟩
  · subst e2
    rcases hat _ e with e3 | e3
    · have h1 := h.c2 _ e3; rw [h.cp] at h1; cases h1
    · omega
  · rcases hat _ e with e3 | e3
    · rw [recol_lt _ _ _ _ (h.kinds.block k e3).2]; exact h.c2 k e3
    · exact recol_ge _ _ _ _ e3
/-- one inner part more -/
theorem SpM.put3 {P : List Fm} {B p a b m : Nat} {c : Nat → Nat} {v1 v2 v3 v4 v3' : Value} {hs : List Hd} {x : Hd} {W W1 : World} (h : SpM P B p a b m c v1 v2 v3 v4 hs W) (hk : KpC c 3 W W1) (ho : Ow cH 26 B W1 v3' (hs ++ [x])) (hat : ∀ k, v3'.ownBlock = some k → v3.ownBlock = some k ∨ W.heap.size ≤ k)
    (hx : Sl cN W x.val (enc (P.getD b .fls)).tail) (hxc : ∀ k, x.val.ownBlock = some k → c k = 5 ∧ k < W.heap.size) :
    SpM P B p a (b + 1) m (recol c W.heap.size 3) v1 v2 v3' v4 (hs ++ [x]) (W1.setCell ⟨p, 3, none⟩ v3') := by
  have hS := hk.put h.cp 3 v3'
  have hsz : W.heap.size ≤ (W1.setCell ⟨p, 3, none⟩ v3').heap.size := hS.size
  have hb := ((h.blk.kps hk (by rw [h.cp]; decide)).set_ 3 v3')
  have hpl := h.blk.lt
  refine ⟨hb, by rw [recol_lt _ _ _ _ hpl]; exact h.cp, h.bp, h.parts.kps hS fun k e => by rw [(h.c1 k e).1]; decide, fun k e => ⟨by rw [recol_lt _ _ _ _ (h.c1 k e).2]; exact (h.c1 k e).1, Nat.lt_of_lt_of_le (h.c1 k e).2 hsz⟩,
    h.kinds.kps hS fun k e => by rw [h.c2 k e]; decide, fun k e => by rw [recol_lt _ _ _ _ (h.kinds.block k e).2]; exact h.c2 k e, ho.kps (keepP p 3 v3') fun k e e2 => ?_, fun k e => ?_, by rw [List.length_append, h.hl]; rfl,
    fun i hi => ?_,
    h.truth.kps hS fun k e => by rw [h.c4 k e]; decide, fun k e => by rw [recol_lt _ _ _ _ (h.truth.block k e).2]; exact h.c4 k e, fun k hk => by rw [recol_lt _ _ _ _ (by have := h.blk.lt; have := h.bp; omega)]; exact h.low k hk⟩
  · subst e2
    rcases hat _ e with e3 | e3
    · have h1 := h.c3 _ e3; rw [h.cp] at h1; cases h1
    · omega
  · rcases hat _ e with e3 | e3
    · rw [recol_lt _ _ _ _ (h.inner.block k e3).2]; exact h.c3 k e3
    · exact recol_ge _ _ _ _ e3
  · by_cases hi2 : i < hs.length
    · rw [List.getElem_append_left hi2]
      exact ⟨(h.rows i hi2).1.kps hS fun k e => by rw [((h.rows i hi2).2 k e).1]; decide, fun k e => ⟨by rw [recol_lt _ _ _ _ ((h.rows i hi2).2 k e).2]; exact ((h.rows i hi2).2 k e).1, Nat.lt_of_lt_of_le ((h.rows i hi2).2 k e).2 hsz⟩⟩
    · have hib : i = b := by rw [List.length_append, List.length_singleton, h.hl] at hi; rw [h.hl] at hi2; omega
      have e : (hs ++ [x])[i] = x := by rw [List.getElem_append_right (by omega)]; simp [hib, h.hl]
      rw [e, hib]
      exact ⟨hx.kps hS fun k e => by rw [(hxc k e).1]; decide, fun k e => ⟨by rw [recol_lt _ _ _ _ (hxc k e).2]; exact (hxc k e).1, Nat.lt_of_lt_of_le (hxc k e).2 hsz⟩⟩
/-- one mask more -/
theorem SpM.put4 {P : List Fm} {B p a b m : Nat} {c : Nat → Nat} {v1 v2 v3 v4 v4' : Value} {hs : List Hd} {W W1 : World} (h : SpM P B p a b m c v1 v2 v3 v4 hs W) (hk : KpC c 4 W W1) (ho : Ow cI 2 B W1 v4' (trL P (m + 1))) (hat : ∀ k, v4'.ownBlock = some k → v4.ownBlock = some k ∨ W.heap.size ≤ k) :
    SpM P B p a b (m + 1) (recol c W.heap.size 4) v1 v2 v3 v4' hs (W1.setCell ⟨p, 4, none⟩ v4') := by
  have hS := hk.put h.cp 4 v4'
  have hsz : W.heap.size ≤ (W1.setCell ⟨p, 4, none⟩ v4').heap.size := hS.size
  have hb := ((h.blk.kps hk (by rw [h.cp]; decide)).set_ 4 v4')
  have hpl := h.blk.lt
  refine ⟨hb, by rw [recol_lt _ _ _ _ hpl]; exact h.cp, h.bp, h.parts.kps hS fun k e => by rw [(h.c1 k e).1]; decide, fun k e => ⟨by rw [recol_lt _ _ _ _ (h.c1 k e).2]; exact (h.c1 k e).1, Nat.lt_of_lt_of_le (h.c1 k e).2 hsz⟩,
    h.kinds.kps hS fun k e => by rw [h.c2 k e]; decide, fun k e => by rw [recol_lt _ _ _ _ (h.kinds.block k e).2]; exact h.c2 k e,
    h.inner.kps hS fun k e => by rw [h.c3 k e]; decide, fun k e => by rw [recol_lt _ _ _ _ (h.inner.block k e).2]; exact h.c3 k e, h.hl,
    fun i hi => ⟨(h.rows i hi).1.kps hS fun k e => by rw [((h.rows i hi).2 k e).1]; decide, fun k e => ⟨by rw [recol_lt _ _ _ _ ((h.rows i hi).2 k e).2]; exact ((h.rows i hi).2 k e).1, Nat.lt_of_lt_of_le ((h.rows i hi).2 k e).2 hsz⟩⟩,
    ho.kps (keepP p 4 v4') fun k e e2 => ?_, fun k e => ?_, fun k hk => by rw [recol_lt _ _ _ _ (by have := h.blk.lt; have := h.bp; omega)]; exact h.low k hk⟩
  · subst e2
    rcases hat _ e with e3 | e3
    · have h1 := h.c4 _ e3; rw [h.cp] at h1; cases h1
    · omega
  · rcases hat _ e with e3 | e3
    · rw [recol_lt _ _ _ _ (h.truth.block k e3).2]; exact h.c4 k e3
    · exact recol_ge _ _ _ _ e3
/-- a growth of a list of another colour -/
theorem SpM.other {P : List Fm} {B p a b m : Nat} {c : Nat → Nat} {v1 v2 v3 v4 : Value} {hs : List Hd} {W W1 : World} (h : SpM P B p a b m c v1 v2 v3 v4 hs W) (hk : KpC c 6 W W1) : SpM P B p a b m (recol c W.heap.size 6) v1 v2 v3 v4 hs W1 := by
  have hsz : W.heap.size ≤ W1.heap.size := KpS.size hk
  refine ⟨h.blk.kps hk (by rw [h.cp]; decide), by rw [recol_lt _ _ _ _ h.blk.lt]; exact h.cp, h.bp, h.parts.kps hk fun k e => by rw [(h.c1 k e).1]; decide, fun k e => ⟨by rw [recol_lt _ _ _ _ (h.c1 k e).2]; exact (h.c1 k e).1, Nat.lt_of_lt_of_le (h.c1 k e).2 hsz⟩,
    h.kinds.kps hk fun k e => by rw [h.c2 k e]; decide, fun k e => by rw [recol_lt _ _ _ _ (h.kinds.block k e).2]; exact h.c2 k e,
    h.inner.kps hk fun k e => by rw [h.c3 k e]; decide, fun k e => by rw [recol_lt _ _ _ _ (h.inner.block k e).2]; exact h.c3 k e, h.hl,
    fun i hi => ⟨(h.rows i hi).1.kps hk fun k e => by rw [((h.rows i hi).2 k e).1]; decide, fun k e => ⟨by rw [recol_lt _ _ _ _ ((h.rows i hi).2 k e).2]; exact ((h.rows i hi).2 k e).1, Nat.lt_of_lt_of_le ((h.rows i hi).2 k e).2 hsz⟩⟩,
    h.truth.kps hk fun k e => by rw [h.c4 k e]; decide, fun k e => by rw [recol_lt _ _ _ _ (h.truth.block k e).2]; exact h.c4 k e, fun k hk => by rw [recol_lt _ _ _ _ (by have := h.blk.lt; have := h.bp; omega)]; exact h.low k hk⟩
theorem SpM.sp {P : List Fm} {B p a b m : Nat} {c : Nat → Nat} {v1 v2 v3 v4 : Value} {hs : List Hd} {W : World} (h : SpM P B p a b m c v1 v2 v3 v4 hs W) : SpP P p W := by
  have hs := h.parts
  obtain ⟨A, k, e⟩ := hs.opn
  rw [List.length_map] at e
  subst e
  exact ⟨A, k, h.blk.lt, h.blk.cell 1, hs⟩
theorem SpM.r {P : List Fm} {B p b N : Nat} {c : Nat → Nat} {v1 v2 v3 v4 : Value} {hs : List Hd} {W : World} (h : SpM P B p P.length b N c v1 v2 v3 v4 hs W) : SpR P N p W := by
  have hk := h.kinds.sl
  have hp := h.parts
  have ht := h.truth.sl
  rw [List.take_length] at hk
  obtain ⟨A, k, e⟩ := hp.opn
  obtain ⟨A2, k2, e2⟩ := hk.opn
  obtain ⟨A4, k4, e4⟩ := ht.opn
  rw [List.length_map] at e e2
  rw [trL_length] at e4
  subst e e2 e4
  exact ⟨A, A2, A4, k, k2, k4, h.blk.lt, h.blk.cell 0, h.blk.cell 1, h.blk.cell 2, h.blk.cell 4, hp, hk, ht⟩
end Go.Proofs.YtgcoohlakcncbaaGreat

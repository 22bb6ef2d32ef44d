/- Joined of several texts: KS, RS, ST, SO. -/
import Derived.Test.YtcikenffeekkeaaGreatDoorY00
import Derived.Test.YtcikenffeekkeaaGreatDoorY11
import Derived.Deep.RegionHeld
namespace Go.Proofs.YtcikenffeekkeaaGreatDoor
open Go.RowKit
set_option linter.unusedVariables false
set_option linter.unusedSimpArgs false
/- Worlds alike but for some blocks: what a closure that writes to captured variables leaves as it was (X34K on its own). -/
/-- the blocks that were there are as they were, but for those of S -/
structure KpS (S : Nat → Prop) (w w' : World) : Prop where
  os : w'.os = w.os
  tape : w'.tape = w.tape
  output : w'.output = w.output
  size : w.heap.size ≤ w'.heap.size
  block : ∀ k, k < w.heap.size → ¬ S k → w'.heap[k]? = w.heap[k]?
theorem KpS.refl (S : Nat → Prop) (w : World) : KpS S w w := ⟨rfl, rfl, rfl, Nat.le_refl _, fun _ _ _ => rfl⟩
theorem KpS.trans {S : Nat → Prop} {a b c : World} (h : KpS S a b) (k : KpS S b c) : KpS S a c :=
  ⟨k.os.trans h.os, k.tape.trans h.tape, k.output.trans h.output, Nat.le_trans h.size k.size, fun i hi hn => (k.block i (Nat.lt_of_lt_of_le hi h.size) hn).trans (h.block i hi hn)⟩
theorem KpS.of {S : Nat → Prop} {w w' : World} (h : Below w.heap.size w w') : KpS S w w' := ⟨h.os, h.tape, h.output, h.size, fun k hk _ => h.block k hk⟩
theorem KpS.below {S : Nat → Prop} {w w' w2 : World} (h : KpS S w w') (hb : Below w'.heap.size w' w2) : KpS S w w2 := h.trans (KpS.of hb)
theorem KpS.set {S : Nat → Prop} {w w' : World} (h : KpS S w w') {p : Addr} (hp : S p.block) (u : Value) : KpS S w (w'.setCell p u) :=
  h.trans ⟨rfl, rfl, rfl, by simp [World.setCell], fun k hk hn => Below.heap_setCell _ _ _ _ (fun e => hn (e ▸ hp))⟩
theorem KpS.grown {S : Nat → Prop} {w w' w2 : World} (h : KpS S w w') {row : Option Nat} (hg : w'.grownBy w2 row) (hr : ∀ k, row = some k → S k) : KpS S w w2 :=
  h.trans ⟨hg.os, hg.tape, hg.output, hg.size, fun k hk hn => hg.block k hk (fun e => hn (hr k e.symm))⟩
theorem KpS.cell {S : Nat → Prop} {w w' : World} (h : KpS S w w') {p : Addr} (hp : p.block < w.heap.size) (hn : ¬ S p.block) : w'.cell? p = w.cell? p := World.cell?_of_block (w := w) (h.block p.block hp hn)
theorem KpS.frozen {S : Nat → Prop} {w w' : World} (h : KpS S w w') {p : Addr} (hp : p.block < w.heap.size) (hn : ¬ S p.block) : w'.frozen? p = w.frozen? p := World.frozen?_of_block (w := w) (h.block p.block hp hn)
theorem KpS.toBelow {S : Nat → Prop} {w w' : World} {B : Nat} (h : KpS S w w') (hB : B ≤ w.heap.size) (hS : ∀ k, k < B → ¬ S k) : Below B w w' :=
  ⟨h.os, h.tape, h.output, h.size, fun k hk => h.block k (by omega) (hS k hk)⟩
theorem KpS.mono {S T : Nat → Prop} {w w' : World} (h : KpS S w w') (hS : ∀ k, S k → T k) : KpS T w w' :=
  ⟨h.os, h.tape, h.output, h.size, fun k hk hn => h.block k hk (fun e => hn (hS k e))⟩
theorem Sl.keptAt {α : Type} {K : Cod α} {w w' : World} {v : Value} {xs : List α} (h : Sl K w v xs) (hs : w.heap.size ≤ w'.heap.size) (hk : ∀ p : Addr, p.block < w.heap.size → v.ownBlock = some p.block → w'.cell? p = w.cell? p) : Sl K w' v xs := by
  obtain ⟨A, c, rfl, hc, hm, hr⟩ := h
  refine ⟨A, c, rfl, hc, hm, ?_⟩
  rcases hr with hr | ⟨b, o, rfl, hb, hcell⟩
  · exact .inl hr
  · exact .inr ⟨b, o, rfl, by omega, fun k x hx => (hk ⟨b, o + k, none⟩ hb rfl).trans (hcell k x hx)⟩
theorem Sl.kps {α : Type} {K : Cod α} {S : Nat → Prop} {w w' : World} {v : Value} {xs : List α} (h : Sl K w v xs) (hk : KpS S w w') (hn : ∀ k, v.ownBlock = some k → ¬ S k) : Sl K w' v xs :=
  h.keptAt hk.size fun p hp hv => hk.cell hp (hn _ hv)
theorem Blk.kps {S : Nat → Prop} {w w' : World} {g : Nat} {t : TypeId} {c : Array Value} (h : Blk w g t c) (hk : KpS S w w') (hn : ¬ S g) : Blk w' g t c := (hk.block g h.lt hn).trans h
theorem Ow.kps {α : Type} {K : Cod α} {e : TypeId} {B : Nat} {S : Nat → Prop} {w w' : World} {v : Value} {xs : List α} (h : Ow K e B w v xs) (hk : KpS S w w') (hn : ∀ k, v.ownBlock = some k → ¬ S k) : Ow K e B w' v xs := by
  have hlt := h.block
  obtain ⟨h0, h1, h2⟩ := h
  refine ⟨h0, h1, ?_⟩
  rcases h2 with h2 | ⟨g, cap, cur, hv, hg, hh, r⟩
  · exact .inl h2
  · have e : v.ownBlock = some g := by rw [hv]; rfl
    exact .inr ⟨g, cap, cur, hv, hg, by rw [hk.block g (hlt g e).2 (hn g e)]; exact hh, r⟩
/- Lists of headers, each with a row that it reads: lists that grow, lists that are read; what the world may change without touching them. No program in sight. -/
/-- how a header is laid, in which block its row lies, and what it reads -/
structure RowS (α β : Type) where
  K : Cod α
  t : TypeId
  blk : α → Option Nat
  R : World → α → β → Prop
  keep : ∀ {w w' : World} {a : α} {b : β}, R w a b → w.heap.size ≤ w'.heap.size → (∀ p : Addr, p.block < w.heap.size → blk a = some p.block → w'.cell? p = w.cell? p) → R w' a b
section
variable {α β : Type} {S : RowS α β} {T : Nat → Prop} {B : Nat} {w w' : World} {v : Value} {L : List β}
/-- a list that is read; nothing of it lies in a block of T -/
def RdS (S : RowS α β) (T : Nat → Prop) (w : World) (v : Value) (L : List β) : Prop :=
  ∃ ps : List (α × β), Sl S.K w v (ps.map (·.1)) ∧ (∀ k, v.ownBlock = some k → ¬ T k) ∧ ps.map (·.2) = L ∧ ∀ p ∈ ps, S.R w p.1 p.2 ∧ ∀ k, S.blk p.1 = some k → ¬ T k
/-- a list of the call's own, that may grow -/
def Grw (S : RowS α β) (B : Nat) (w : World) (v : Value) (L : List β) : Prop :=
  ∃ ps : List (α × β), Ow S.K S.t B w v (ps.map (·.1)) ∧ ps.map (·.2) = L ∧ ∀ p ∈ ps, S.R w p.1 p.2 ∧ ∀ k, S.blk p.1 = some k → B ≤ k ∧ k < w.heap.size ∧ v.ownBlock ≠ some k
theorem RdS.kps (h : RdS S T w v L) (hk : KpS T w w') : RdS S T w' v L := by
  obtain ⟨ps, h1, h2, h3, h4⟩ := h
  exact ⟨ps, h1.kps hk h2, h2, h3, fun p hp => ⟨S.keep (h4 p hp).1 hk.size fun q hq e => hk.cell hq ((h4 p hp).2 _ e), (h4 p hp).2⟩⟩
theorem RdS.below (h : RdS S T w v L) (hb : Below w.heap.size w w') : RdS S T w' v L := by
  obtain ⟨ps, h1, h2, h3, h4⟩ := h
  exact ⟨ps, h1.below hb, h2, h3, fun p hp => ⟨S.keep (h4 p hp).1 hb.size fun q hq e => hb.cell hq, (h4 p hp).2⟩⟩
theorem RdS.drewN (h : RdS S T w v L) (n : Nat) : RdS S T (w.drewN n) v L := h.below (below_drewN (Below.refl _ _) n)
theorem RdS.less {T' : Nat → Prop} (h : RdS S T w v L) (hT : ∀ k, T' k → T k) : RdS S T' w v L := by
  obtain ⟨ps, h1, h2, h3, h4⟩ := h
  exact ⟨ps, h1, fun k hk ht => h2 k hk (hT k ht), h3, fun p hp => ⟨(h4 p hp).1, fun k hk ht => (h4 p hp).2 k hk (hT k ht)⟩⟩
theorem RdS.opn (h : RdS S T w v L) : ∃ A c, v = .slice A L.length c := by
  obtain ⟨ps, h1, h2, rfl, h4⟩ := h
  obtain ⟨A, c, e⟩ := h1.opn
  exact ⟨A, c, by rw [e, List.length_map, List.length_map]⟩
theorem RdS.at_ {A : Option Addr} {n c : Nat} (h : RdS S T w (.slice A n c) L) {k : Nat} (hk : k < L.length) :
    ∃ b o a, A = some ⟨b, o, none⟩ ∧ b < w.heap.size ∧ (∀ i u, (S.K.cells a)[i]? = some u → w.cell? ⟨b, o + k * S.K.size + i, none⟩ = some u) ∧ S.R w a L[k] := by
  obtain ⟨ps, h1, h2, rfl, h4⟩ := h
  have hk' : k < ps.length := by simpa using hk
  obtain ⟨b, o, e, hb, hc⟩ := h1.cell (k := k) (by simpa using hk')
  rw [List.getElem_map] at hc
  refine ⟨b, o, ps[k].1, e, hb, hc, ?_⟩
  rw [List.getElem_map]
  exact (h4 _ (List.getElem_mem hk')).1
theorem Grw.nil (B : Nat) (w : World) : Grw S B w (.slice none 0 0) [] := ⟨[], Ow.nil _ _, rfl, fun p hp => by simp at hp⟩
theorem Grw.below (h : Grw S B w v L) (hb : Below w.heap.size w w') : Grw S B w' v L := by
  obtain ⟨ps, h1, h2, h3⟩ := h
  exact ⟨ps, h1.below hb, h2, fun p hp => ⟨S.keep (h3 p hp).1 hb.size fun q hq e => hb.cell hq, fun k hk => ⟨((h3 p hp).2 k hk).1, Nat.lt_of_lt_of_le ((h3 p hp).2 k hk).2.1 hb.size, ((h3 p hp).2 k hk).2.2⟩⟩⟩
theorem Grw.drewN (h : Grw S B w v L) (n : Nat) : Grw S B (w.drewN n) v L := h.below (below_drewN (Below.refl _ _) n)
theorem Grw.mono {B' : Nat} (h : Grw S B w v L) (hB : B' ≤ B) : Grw S B' w v L := by
  obtain ⟨ps, h1, h2, h3⟩ := h
  exact ⟨ps, h1.mono hB, h2, fun p hp => ⟨(h3 p hp).1, fun k hk => ⟨Nat.le_trans hB ((h3 p hp).2 k hk).1, ((h3 p hp).2 k hk).2⟩⟩⟩
theorem Grw.opn (h : Grw S B w v L) : ∃ A c, v = .slice A L.length c := by
  obtain ⟨ps, h1, rfl, h3⟩ := h
  obtain ⟨A, c, e⟩ := h1.opn
  exact ⟨A, c, by rw [e, List.length_map, List.length_map]⟩
theorem Grw.rd (h : Grw S B w v L) (hT : ∀ k, B ≤ k → k < w.heap.size → ¬ T k) : RdS S T w v L := by
  obtain ⟨ps, h1, h2, h3⟩ := h
  exact ⟨ps, h1.sl, fun k hk => hT k (h1.block k hk).1 (h1.block k hk).2, h2, fun p hp => ⟨(h3 p hp).1, fun k hk => hT k ((h3 p hp).2 k hk).1 ((h3 p hp).2 k hk).2.1⟩⟩
theorem Grw.blk (h : Grw S B w v L) : ∀ k, v.ownBlock = some k → B ≤ k ∧ k < w.heap.size := by
  obtain ⟨ps, h1, -⟩ := h
  exact h1.block
/-- a store into a block below B, and into nothing of the list -/
theorem Grw.setBelow (h : Grw S B w v L) {p : Addr} (hp : p.block < B) (u : Value) : Grw S B (w.setCell p u) v L := by
  obtain ⟨ps, h1, h2, h3⟩ := h
  refine ⟨ps, h1.setBelow hp u, h2, fun q hq => ⟨S.keep (h3 q hq).1 (by simp [World.setCell]) fun a ha e => ?_, fun k hk => ?_⟩⟩
  · exact World.cell?_setCell_far _ _ _ _ fun e2 => by
      have := ((h3 q hq).2 _ e).1
      rw [← e2] at this
      omega
  · have := (h3 q hq).2 k hk
    simpa [World.setCell] using this
/-- one row more -/
theorem Grw.push (h : Grw S B w v L) {a : α} {b : β} (hr : S.R w a b) (hk : ∀ k, S.blk a = some k → B ≤ k ∧ k < w.heap.size ∧ v.ownBlock ≠ some k) :
    ∃ hs : List α, Ow S.K S.t B w v hs ∧ hs.length = L.length ∧ ∀ w' v' W, w.grownBy W none → W.heap.size = w.heap.size + 1 → Ow S.K S.t B w' v' (hs ++ [a]) → W.grownBy w' v.ownBlock →
      (v'.ownBlock = v.ownBlock ∨ v'.ownBlock = some (w.heap.size + 1)) → Grw S B w' v' (L ++ [b]) := by
  obtain ⟨ps, h1, h2, h3⟩ := h
  refine ⟨ps.map (·.1), h1, by rw [← h2, List.length_map, List.length_map], fun w' v' W hw hWz ho hg hat => ?_⟩
  have hsz : w.heap.size < w'.heap.size := by have := hg.size; omega
  have key : ∀ (x : α) (y : β), S.R w x y → (∀ k, S.blk x = some k → B ≤ k ∧ k < w.heap.size ∧ v.ownBlock ≠ some k) → S.R w' x y ∧ ∀ k, S.blk x = some k → B ≤ k ∧ k < w'.heap.size ∧ v'.ownBlock ≠ some k := by
    intro x y hx hk
    refine ⟨S.keep hx (by omega) fun p hp e => ?_, fun k e => ⟨(hk k e).1, by have := (hk k e).2.1; omega, fun e3 => ?_⟩⟩
    · have e1 : W.cell? p = w.cell? p := World.cell?_of_block (w := w) (hw.block p.block hp (by simp))
      have e2 : w'.cell? p = W.cell? p := World.cell?_of_block (w := W) (hg.block p.block (by omega) (fun e4 => (hk _ e).2.2 e4.symm))
      rw [e2, e1]
    · rcases hat with e2 | e2
      · exact (hk k e).2.2 (e2 ▸ e3)
      · rw [e2] at e3; injection e3 with e3; have := (hk k e).2.1; omega
  refine ⟨ps ++ [(a, b)], by rw [List.map_append]; exact ho, by rw [List.map_append, h2]; rfl, fun p hp => ?_⟩
  rcases List.mem_append.1 hp with hp | hp
  · exact key _ _ (h3 p hp).1 (h3 p hp).2
  · have e := List.mem_singleton.1 hp
    subst e
    exact key _ _ hr hk
end
/- Over any program: a region whose orders are left open, walked in a tree of orders (SchT alone); tables that grow side by side in place. -/
/- Over any program: a region whose orders are left open, walked in a tree of orders (the first part of AF, alone). -/
/- Over any program: a region whose orders are left open, walked in a tree of orders: as Sch, but two operations that are ready together and not quiet are taken in both orders. -/
inductive Tr where
  | fin : Tr
  | q : Nat → Tr → Tr
  | r : Nat → Tr → Tr
  | rr : Nat → Nat → Tr → Tr → Tr
def Tr.dep : Tr → Nat
  | .fin => 0
  | .q _ t => t.dep + 1
  | .r _ t => t.dep + 1
  | .rr _ _ s _ => s.dep + 1
section
variable {P : Program} {ops : Array Oper} {md : Region.Mode} {I : World → Prop}
def treeB (md : Region.Mode) (ops : Array Oper) (n : Nat) : Tr → Array Bool → Bool
  | .fin, listed => Region.seqB md ops (ops.size - n) n listed
  | .q i t, listed => decide (i < n) && ((Region.ready md ops listed).contains i && Region.free md ops listed i) && treeB md ops n t (listed.setIfInBounds i true)
  | .r i t, listed => decide (i < n) && decide (Region.ready md ops listed = [i]) && treeB md ops n t (listed.setIfInBounds i true)
  | .rr i j s t, listed => decide (i < n) && decide (j < n) && decide (Region.ready md ops listed = [i, j]) && decide (s.dep = t.dep) && treeB md ops n s (listed.setIfInBounds i true) && treeB md ops n t (listed.setIfInBounds j true)
def schedTB (md : Region.Mode) (ops : Array Oper) (n : Nat) (t : Tr) : Bool :=
  Region.noSelect ops && tailB md ops n && decide (t.dep = n) && treeB md ops n t (Array.replicate ops.size false)
/-- an operation run, I kept, then K -/
def opW (P : Program) (ops : Array Oper) (I : World → Prop) (i : Nat) (K : Act → World → Prop) (a : Act) (w : World) : Prop :=
  match ops[i]? with
  | none => False
  | some o => if Region.wanted o (yielded ops a.tmps) then o.wp P a w (fun a' w' => I w' ∧ K a' w') Qf else K (a.put o.dst undef) w
theorem opW_opI {i : Nat} {K K' : Act → World → Prop} {a : Act} {w : World} (hI : I w) (h : opW P ops I i K a w) (hk : ∀ a' w', I w' → K a' w' → K' a' w') : opI P ops i K' a w := by
  unfold opW at h
  unfold opI
  cases ho : ops[i]? with
  | none => rw [ho] at h; exact h.elim
  | some o =>
    simp only [ho] at h
    split at h
    · rename_i hw
      simp only [hw, if_true]
      exact Oper.wp_mono (fun a' w' h' => hk a' w' h'.1 h'.2) h
    · rename_i hw
      simp only [hw]
      exact hk _ _ hI h
theorem opW_intro {i : Nat} {o : Oper} {K' : Act → World → Prop} {a : Act} {w : World} (hi : ops[i]? = some o)
    (h : ∀ K : Act → World → Prop, (∀ a' w', I w' → K' a' w' → K a' w') → I w → if Region.wanted o (yielded ops a.tmps) then o.wp P a w K Qf else K (a.put o.dst undef) w) (hI : I w) : opW P ops I i K' a w := by
  unfold opW
  simp only [hi]
  have h := h (fun a' w' => I w' ∧ K' a' w') (fun _ _ h1 h2 => ⟨h1, h2⟩) hI
  split at h
  · rename_i hw; rw [if_pos hw]; exact h
  · rename_i hw; rw [if_neg hw]; exact h.2
/-- the walk along the tree -/
def wpT (P : Program) (ops : Array Oper) (I : World → Prop) (L : Act → World → Prop) : Tr → Act → World → Prop
  | .fin, a, w => L a w
  | .q i t, a, w =>
    match ops[i]? with
    | none => False
    | some o => ∃ v, YI P ops I o v a ∧ wpT P ops I L t (a.put o.dst v) w
  | .r i t, a, w => opW P ops I i (wpT P ops I L t) a w
  | .rr i j s t, a, w => opW P ops I i (wpT P ops I L s) a w ∧ opW P ops I j (wpT P ops I L t) a w
theorem wpT_fin {L : Act → World → Prop} {a : Act} {w : World} (h : L a w) : wpT P ops I L .fin a w := h
theorem wpT_q {L : Act → World → Prop} {i : Nat} {t : Tr} {o : Oper} {v : Value} {a : Act} {w : World} (hi : ops[i]? = some o)
    (h : ∀ w', I w' → ∀ K : Value → Prop, K v → quietV P ops o a w' K) (hn : wpT P ops I L t (a.put o.dst v) w) : wpT P ops I L (.q i t) a w := by
  unfold wpT
  simp only [hi]
  exact ⟨v, YI.of_quiet h, hn⟩
theorem wpT_r {L : Act → World → Prop} {i : Nat} {t : Tr} {o : Oper} {a : Act} {w : World} (hi : ops[i]? = some o)
    (h : ∀ K : Act → World → Prop, (∀ a' w', I w' → wpT P ops I L t a' w' → K a' w') → I w → if Region.wanted o (yielded ops a.tmps) then o.wp P a w K Qf else K (a.put o.dst undef) w) (hI : I w) : wpT P ops I L (.r i t) a w := by
  unfold wpT
  exact opW_intro hi h hI
theorem wpT_rr {L : Act → World → Prop} {i j : Nat} {s t : Tr} {o o' : Oper} {a : Act} {w : World} (hi : ops[i]? = some o) (hj : ops[j]? = some o')
    (h : ∀ K : Act → World → Prop, (∀ a' w', I w' → wpT P ops I L s a' w' → K a' w') → I w → if Region.wanted o (yielded ops a.tmps) then o.wp P a w K Qf else K (a.put o.dst undef) w)
    (h' : ∀ K : Act → World → Prop, (∀ a' w', I w' → wpT P ops I L t a' w' → K a' w') → I w → if Region.wanted o' (yielded ops a.tmps) then o'.wp P a w K Qf else K (a.put o'.dst undef) w) (hI : I w) : wpT P ops I L (.rr i j s t) a w := by
  unfold wpT
  exact ⟨opW_intro hi h hI, opW_intro hj h' hI⟩
theorem wpAnyI_tree {n : Nat} {Lq : Act → World → Prop} (hsel : Region.noSelect ops = true) (hb : tailB md ops n = true) :
    ∀ (t : Tr) (listed : Array Bool) (a : Act) (w : World), HeadInv md ops n listed → treeB md ops n t listed = true → I w → wpT P ops I Lq t a w →
      wpAnyI P md ops I n (fun listed' a' w' => Region.seqB md ops (ops.size - n) n listed' = true ∧ Lq a' w') t.dep listed a w
  | .fin, listed, a, w, _, hB, hI, h => ⟨hI, hB, h⟩
  | .q i t, listed, a, w, inv, hB, hI, h => by
    simp only [treeB, Bool.and_eq_true, decide_eq_true_eq] at hB
    obtain ⟨⟨hin, hr, hf⟩, hB2⟩ := hB
    unfold wpT at h
    cases ho : ops[i]? with
    | none => rw [ho] at h; exact h.elim
    | some o =>
      simp only [ho] at h
      obtain ⟨v, hy, hn⟩ := h
      have hr' : i ∈ Region.ready md ops listed := by simpa using hr
      exact wpAnyI_first ho (Region.noSelect_spec hsel) hb hin (fun _ _ _ hL => seqB_ready hL.1) t.dep listed a w inv (Region.free_spec ho hf) hr' hy hI
        (wpAnyI_tree hsel hb t _ _ _ (inv.set hr' hin) hB2 hI hn)
  | .r i t, listed, a, w, inv, hB, hI, h => by
    simp only [treeB, Bool.and_eq_true, decide_eq_true_eq] at hB
    obtain ⟨⟨hin, hB1⟩, hB2⟩ := hB
    unfold wpT at h
    refine ⟨hI, (by rw [hB1]; simp), fun j hj => ?_⟩
    have hr' : i ∈ Region.ready md ops listed := by rw [hB1]; exact List.mem_singleton.2 rfl
    rw [hB1] at hj
    have hji : j = i := by simpa using hj
    subst hji
    exact ⟨hin, opW_opI hI h fun a' w' hI' h' => wpAnyI_tree hsel hb t _ a' w' (inv.set hr' hin) hB2 hI' h'⟩
  | .rr i j s t, listed, a, w, inv, hB, hI, h => by
    simp only [treeB, Bool.and_eq_true, decide_eq_true_eq] at hB
    obtain ⟨⟨⟨⟨⟨hin, hjn⟩, hB1⟩, hd⟩, hB2⟩, hB3⟩ := hB
    unfold wpT at h
    refine ⟨hI, (by rw [hB1]; simp), fun k hk => ?_⟩
    have hri : i ∈ Region.ready md ops listed := by rw [hB1]; simp
    have hrj : j ∈ Region.ready md ops listed := by rw [hB1]; simp
    rw [hB1] at hk
    rcases List.mem_cons.1 hk with rfl | hk
    · exact ⟨hin, opW_opI hI h.1 fun a' w' hI' h' => wpAnyI_tree hsel hb s _ a' w' (inv.set hri hin) hB2 hI' h'⟩
    · have hkj : k = j := by simpa using hk
      subst hkj
      refine ⟨hjn, opW_opI hI h.2 fun a' w' hI' h' => ?_⟩
      have := wpAnyI_tree hsel hb t _ a' w' (inv.set hrj hjn) hB3 hI' h'
      rw [← hd] at this
      exact this
/-- a region that draws, walked along a tree of orders, then the forced operations from n on -/
theorem wp_region_tree {id : Nat} {Q : Exit → Act → World → Prop} {a : Act} {w : World} {l : List Oper} (I : World → Prop) (n : Nat) (t : Tr) (hm : P.follows .mixedOrders = true) (hB : schedTB .any l.toArray n t = true)
    (hI : I w.drew) (h : wpT P l.toArray I (fun a' w' => wpList P l.toArray Q (l.drop n) a' w') t a w.drew) : (Code.region id l.toArray true).wp P Q a w := by
  simp only [schedTB, Bool.and_eq_true, decide_eq_true_eq] at hB
  obtain ⟨⟨⟨hsel, hb⟩, hlen⟩, hs⟩ := hB
  have hn : n ≤ l.length := by
    unfold tailB at hb
    simp only [Bool.or_eq_true, Bool.and_eq_true, decide_eq_true_eq, List.size_toArray] at hb
    rcases hb with hb | ⟨⟨hb, _⟩, _⟩ <;> omega
  have inv0 : HeadInv .any l.toArray n (Array.replicate l.toArray.size false) :=
    ⟨by simp, fun j oj _ hl => (by rw [getD_replicate_false] at hl; cases hl), fun t _ ht => getD_in (by simpa using ht) (getD_replicate_false _ _)⟩
  have H := wpAnyI_tree (md := .any) (P := P) (Lq := fun a' w' => wpList P l.toArray Q (l.drop n) a' w') hsel hb t _ a w.drew inv0 hs hI h
  refine wp_region_any hm ?_
  have hdl : (l.drop n).length = l.toArray.size - n := by simp
  have := wpAny_of_I (Q := Q) (g := l.toArray.size - n) (fun listed a' w' hL => by
    have := wpAny_of_seq (md := .any) (Q' := Q) (l.drop n) n listed a' w' (fun j => by simp [List.getElem?_drop]) (by rw [hdl]; exact hL.1) hL.2
    rwa [hdl] at this) _ _ _ _ H
  rw [hlen, show n + (l.toArray.size - n) = l.toArray.size by simp; omega] at this
  exact this
end
/- Append as a step of a region that draws its order (a block of XSB.lean on its own). Written by gen12S.py. -/
/- Contracts of chapter 7, of the program: the closures of bounded; append as a step of a region that draws. -/
section
variable {P : Program} {α : Type} {K : Cod α}
theorem wp_anyS (w : World) {o : Oper} {a : Act} {KK : Act → World → Prop} {Q : Exit → Act → World → Prop} {t e : TypeId} {z : Value} {bytes : Nat}
    (T : Ty P t e z K.size bytes) (s x : Operand)
    (ho : o.op = .call { callee := .builtin .append, args := #[s, x], argTypes := #[t, t] })
    {B : Nat} {v : Value} {xs : List α} (hs : a.eval s = v) (hown : Ow K e B w v xs)
    {A : Option Addr} {m c : Nat} {news : List α} (hx : a.eval x = .slice A m c) (hm : m = news.length) (hr : Rd w A (flat K news))
    (hbytes : (xs.length + news.length) * bytes ≤ 140737488355328) (hbase : B ≤ w.heap.size)
    (h : ∀ v' w', Ow K e B w' v' (xs ++ news) → w.grownBy w' v.ownBlock → Below B w w' → (v'.ownBlock = v.ownBlock ∨ v'.ownBlock = some w.heap.size) → KK (a.put o.dst v') w') :
    o.wp P a w KK Q := by
  subst hm
  obtain ⟨i, hi, hz, hsize, hby⟩ := T.info
  have hpos := T.pos
  have hmax : xs.length + news.length ≤ 140737488355328 := Nat.le_trans (Nat.le_mul_of_pos_right _ hpos) hbytes
  obtain ⟨⟨A0, c0, rfl, hc0, hm0⟩, ho'⟩ := hown
  have main : ∃ v' w', (Builtin.append_ #[t, t] o.type #[.slice A0 xs.length c0, .slice A news.length c]).run P w = .ok v' w' ∧ w'.ownsRow B e K.size v' (xs.length + news.length) (flat K xs ++ flat K news) ∧ w.grownBy w' (Value.ownBlock (.slice A0 xs.length c0)) ∧
      (v'.ownBlock = (Value.ownBlock (.slice A0 xs.length c0)) ∨ v'.ownBlock = some w.heap.size) ∧ ∃ A' c', v' = .slice A' (xs.length + news.length) c' ∧ xs.length + news.length ≤ c' ∧ c' ≤ 9223372036854775807 := by
    have shape : ∀ v' w', World.ownsRow w' B e K.size v' (xs.length + news.length) (flat K xs ++ flat K news) → ∃ A' c', v' = .slice A' (xs.length + news.length) c' ∧ xs.length + news.length ≤ c' ∧ c' ≤ 9223372036854775807 := by
      intro v' w' h
      rcases h.2 with ⟨h1, h2⟩ | ⟨g, cap, cur, hv, _, _, hnc, hcm, _⟩
      · exact ⟨none, 0, by rw [h1, h2], by omega, by omega⟩
      · exact ⟨_, cap, hv, hnc, by simp only [maxLen] at hcm; omega⟩
    by_cases hn : news = []
    · subst hn
      refine ⟨.slice A0 xs.length c0, w, ?_, by simpa [flat] using ho', World.grownBy.refl w _, .inl rfl, A0, c0, by simp, by simpa using hc0, hm0⟩
      rcases ho'.2 with ⟨h1, h2⟩ | ⟨g, cap, cur, hv, _, _, hnc, _⟩
      · rw [h1]
        rcases A with _ | A <;> simp [Builtin.append_, run_underlying T.under, sizeOf, typeInfo, hi, Builtin.lenOf, Builtin.firstCells, loadCells, loadCellsFrom]
      · injection hv with hA _ hcc
        subst hA; subst hcc
        rcases A with _ | A <;> simp [Builtin.append_, run_underlying T.under, sizeOf, typeInfo, hi, Builtin.lenOf, Builtin.firstCells, loadCells, loadCellsFrom, hnc, storeCells]
    · rcases hr with hr | ⟨b, off, rfl, _, hcell⟩
      · have := flat_length (K := K) news
        rw [hr, List.length_nil] at this
        have h0 : 0 < news.length := by cases news with | nil => exact absurd rfl hn | cons _ _ => simp
        have := Nat.mul_pos h0 K.pos
        omega
      · obtain ⟨v', w', hrun, h2, h3, _, h5⟩ := run_append_own_at (P := P) w B t o.type e i z K.size bytes T.under hi hz hsize hby T.cells K.pos _ _ _ ho' ⟨b, off, none⟩ news.length c (flat K news) (flat_length news)
          (fun j u hu => by rw [add_lit]; exact hcell j u hu) (flat_one news) (by simp only [maxLen]; omega) hbytes hbase
        exact ⟨v', w', hrun, h2, h3, h5, shape v' w' h2⟩
  obtain ⟨v', w', hrun, h2, h3, h4, A', c', hv', hn', hm'⟩ := main
  unfold Oper.wp execOp
  simp only [ho, resolve, invoke, builtin, Sem.run_bind, Sem.run_pure, Result.andThen_ok, List.map_toArray, List.map_cons, List.map_nil, hs, hx, hrun]
  refine (h v' w' ⟨⟨A', c', by rw [hv', List.length_append], by simpa using hn', hm'⟩, by rw [flat_append, List.length_append]; exact h2⟩ h3 ?_ h4)
  refine (Below.refl _ _).grown h3 hbase fun k hk => (ho'.lt k hk).1


/-- append of one element, made just now, as a step of a region that draws its order -/
theorem step_oneS (w : World) {ops : Array Oper} {o : Oper} {a : Act} {KK : Act → World → Prop} {Q : Exit → Act → World → Prop} {E : Prop} {t e : TypeId} {z : Value} {bytes : Nat}
    (T : Ty P t e z K.size bytes) (hgd : o.guard = none) (s x : Operand)
    (ho : o.op = .call { callee := .builtin .append, args := #[s, x], argTypes := #[t, t] })
    {B : Nat} {v : Value} {xs : List α} (hs : a.eval s = v) (hown : Ow K e B w v xs) (y : α) {cs : Array Value} (hcs : K.cells y = cs.toList)
    (hx : a.eval x = .slice (some ⟨w.heap.size, 0, none⟩) 1 1)
    (hbytes : (xs.length + 1) * bytes ≤ 140737488355328) (hbase : B ≤ w.heap.size)
    (h : ∀ v' w', Ow K e B w' v' (xs ++ [y]) → (w.alloc (.cells cs e)).grownBy w' v.ownBlock → Below B w w' → (v'.ownBlock = v.ownBlock ∨ v'.ownBlock = some (w.heap.size + 1)) → KK (a.put o.dst v') w') :
    if Region.wanted o (yielded ops a.tmps) = true then Oper.wp P o a (w.alloc (.cells cs e)) KK Q else E := by
  have hw : Region.wanted o (yielded ops a.tmps) = true := by simp [Region.wanted, hgd]
  rw [if_pos hw]
  have hr : Rd (w.alloc (.cells cs e)) (some ⟨w.heap.size, 0, none⟩) (flat K [y]) := by
    refine .inr ⟨w.heap.size, 0, rfl, by simp, fun k u hu => ?_⟩
    rw [flat_cons, flat_nil, List.append_nil, hcs] at hu
    have := cell_of_row (w.alloc (.cells cs e)) w.heap.size k cs e (0, 0) (heap_alloc_new w _)
    rw [Nat.zero_add, this]
    simpa using hu
  refine wp_anyS (w.alloc (.cells cs e)) T s x ho hs (hown.alloc _) hx rfl hr hbytes (by simp; omega) fun v' w' h1 h2 h3 h4 => ?_
  exact h v' w' h1 h2 (((Below.refl _ _).alloc hbase _).trans h3) (by simpa using h4)
end
end Go.Proofs.YtcikenffeekkeaaGreatDoor

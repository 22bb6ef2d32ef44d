/- The discharger: how it lies, with a colour for each block; a line is added. -/
import Derived.Test.YtcikenffeekkeaaGreatDoorY34
import Derived.Test.YtcikenffeekkeaaGreatDoorY13
import Derived.Test.YtcikenffeekkeaaGreatDoorY17
namespace Go.Proofs.YtcikenffeekkeaaGreatDoor
open Go.RowKit
set_option linter.unusedVariables false
set_option linter.unusedSimpArgs false
/-- lines of the call's own, all their blocks of one colour -/
def ObC (B : Nat) (c : Nat → Nat) (x : Nat) (w : World) (v : Value) (fs : List Ln) : Prop :=
  ∃ hs : List (L3 × Hd), Ow cLn 46 B w v hs ∧ (∀ k, v.ownBlock = some k → c k = x) ∧ hs.length = fs.length ∧ ∀ i (p : i < hs.length) (q : i < fs.length), hs[i].1 = fs[i].k3 ∧ Ow cN 75 B w hs[i].2.val fs[i].x ∧
    ∀ k, hs[i].2.val.ownBlock = some k → c k = x ∧ v.ownBlock ≠ some k ∧ ∀ j (r : j < hs.length), j ≠ i → hs[j].2.val.ownBlock ≠ some k
theorem ObC.nil (B : Nat) (c : Nat → Nat) (x : Nat) (w : World) : ObC B c x w (.slice none 0 0) [] := ⟨[], Ow.nil _ _, (fun k hk => by cases hk), rfl, fun i p => by simp at p⟩
theorem ObC.obL {B : Nat} {c : Nat → Nat} {x : Nat} {w : World} {v : Value} {fs : List Ln} (h : ObC B c x w v fs) : ObL B w.heap.size w v fs := by
  obtain ⟨hs, h1, h2, h3, h4⟩ := h
  exact ⟨hs, ⟨h1, fun k hk => (h1.block k hk).2⟩, h3, fun i p q => ⟨(h4 i p q).1, ⟨(h4 i p q).2.1, fun k hk => ((h4 i p q).2.1.block k hk).2⟩, fun k hk => ((h4 i p q).2.2 k hk).2⟩⟩
theorem ObC.opn {B : Nat} {c : Nat → Nat} {x : Nat} {w : World} {v : Value} {fs : List Ln} (h : ObC B c x w v fs) : ∃ A cc, v = .slice A fs.length cc := h.obL.opn
theorem ObC.own {B : Nat} {c : Nat → Nat} {x : Nat} {w : World} {v : Value} {fs : List Ln} (h : ObC B c x w v fs) : ∀ k, v.ownBlock = some k → c k = x ∧ B ≤ k ∧ k < w.heap.size := by
  obtain ⟨hs, h1, h2, -⟩ := h
  exact fun k hk => ⟨h2 k hk, h1.block k hk⟩
theorem ObC.kps {B : Nat} {c : Nat → Nat} {x : Nat} {w w' : World} {v : Value} {fs : List Ln} {S : Nat → Prop} (h : ObC B c x w v fs) (hk : KpS S w w') (hS : ∀ k, S k → c k ≠ x) : ObC B c x w' v fs := by
  obtain ⟨hs, h1, h2, h3, h4⟩ := h
  exact ⟨hs, h1.kps hk fun k e s => hS k s (h2 k e), h2, h3, fun i p q => ⟨(h4 i p q).1, (h4 i p q).2.1.kps hk fun k e s => hS k s ((h4 i p q).2.2 k e).1, (h4 i p q).2.2⟩⟩
theorem ObC.recl {B : Nat} {c c' : Nat → Nat} {x : Nat} {w : World} {v : Value} {fs : List Ln} (h : ObC B c x w v fs) (hc : ∀ k, k < w.heap.size → c k = x → c' k = x) : ObC B c' x w v fs := by
  obtain ⟨hs, h1, h2, h3, h4⟩ := h
  exact ⟨hs, h1, fun k e => hc k (h1.block k e).2 (h2 k e), h3, fun i p q => ⟨(h4 i p q).1, (h4 i p q).2.1, fun k e => ⟨hc k ((h4 i p q).2.1.block k e).2 ((h4 i p q).2.2 k e).1, ((h4 i p q).2.2 k e).2⟩⟩⟩
theorem ObC.push {B : Nat} {c : Nat → Nat} {x : Nat} {w : World} {v : Value} {fs : List Ln} (h : ObC B c x w v fs) {A : Option Addr} {n cc : Nat} {xs : List Nd} (hu : Ow cN 75 B w (.slice A n cc) xs) (hc : ∀ k, (Value.slice A n cc).ownBlock = some k → c k ≠ x) (y : L3) :
    ∃ hs : List (L3 × Hd), Ow cLn 46 B w v hs ∧ hs.length = fs.length ∧ ∀ (w' : World) (v' : Value) (c' : Nat → Nat), KpS (fun k => v.ownBlock = some k) w w' → Ow cLn 46 B w' v' (hs ++ [(y, ⟨A, n, cc⟩)]) →
      (v'.ownBlock = v.ownBlock ∨ ∃ k, v'.ownBlock = some k ∧ w.heap.size ≤ k) → (∀ k, k < w.heap.size → c k = x → c' k = x) → (∀ k, (Value.slice A n cc).ownBlock = some k → c' k = x) → (∀ k, w.heap.size ≤ k → c' k = x) → ObC B c' x w' v' (fs ++ [mkLn y xs]) := by
  obtain ⟨hs, h1, h2, h3, h4⟩ := h
  refine ⟨hs, h1, h3, fun w' v' c' hk ho hat g1 g2 g3 => ?_⟩
  have hfl : ∀ k, (Value.slice A n cc).ownBlock = some k → k < w.heap.size := fun k e => (hu.block k e).2
  have e3 : ∀ (p : hs.length < (hs ++ [(y, (⟨A, n, cc⟩ : Hd))]).length), (hs ++ [(y, (⟨A, n, cc⟩ : Hd))])[hs.length] = (y, ⟨A, n, cc⟩) := fun p => by simp
  have key : ∀ (u : Value) (ys : List Nd), Ow cN 75 B w u ys → (∀ k, u.ownBlock = some k → v.ownBlock ≠ some k) → Ow cN 75 B w' u ys ∧ ∀ k, u.ownBlock = some k → v'.ownBlock ≠ some k := by
    intro u ys hu hk2
    refine ⟨hu.kps hk hk2, fun k e e2 => ?_⟩
    rcases hat with h | ⟨k', h, hk'⟩
    · exact hk2 k e (h ▸ e2)
    · rw [e2] at h; injection h with h; have := (hu.block k e).2; omega
  have hv' : ∀ k, v'.ownBlock = some k → c' k = x := by
    intro k e
    rcases hat with h | ⟨k', h, hk'⟩
    · rw [h] at e; exact g1 k (h1.block k e).2 (h2 k e)
    · rw [h] at e; injection e with e; exact g3 k (by omega)
  refine ⟨_, ho, hv', by simp [h3], fun i p q => ?_⟩
  by_cases hi : i < hs.length
  · have e1 : (hs ++ [(y, (⟨A, n, cc⟩ : Hd))])[i] = hs[i] := List.getElem_append_left hi
    have e2 : (fs ++ [mkLn y xs])[i] = fs[i]'(by omega) := List.getElem_append_left (by omega)
    obtain ⟨a1, a2, a3⟩ := h4 i hi (by omega)
    have kk := key _ _ a2 (fun k hk => (a3 k hk).2.1)
    rw [e1, e2]
    refine ⟨a1, kk.1, fun k hk => ⟨g1 k (a2.block k hk).2 (a3 k hk).1, kk.2 k hk, fun j r hj => ?_⟩⟩
    by_cases hjl : j < hs.length
    · rw [List.getElem_append_left hjl]
      exact (a3 k hk).2.2 j hjl hj
    · have : j = hs.length := by simp at r; omega
      subst this
      rw [e3]
      intro e
      exact hc k e (a3 k hk).1
  · have hi' : i = hs.length := by simp at p; omega
    subst hi'
    have e2 : (fs ++ [mkLn y xs])[hs.length] = mkLn y xs := by
      rw [List.getElem_append_right (by omega)]; simp [h3]
    rw [e3, e2]
    have kk := key (.slice A n cc) xs hu (fun k hk e => hc k hk (h2 k e))
    refine ⟨rfl, kk.1, fun k hk => ⟨g2 k hk, kk.2 k hk, fun j r hj => ?_⟩⟩
    have hjl : j < hs.length := by simp at r; omega
    rw [List.getElem_append_left hjl]
    intro e
    exact hc k hk ((h4 j hjl (by omega)).2.2 k e).1
/-- the discharger -/
structure DsM (B g : Nat) (c : Nat → Nat) (va vl vs vi : Value) (ls : List Ln) (se im : List Int) (W : World) : Prop where
  blk : Blk W g 56 #[va, vl, vs, vi]
  gB : B ≤ g
  cg : c g = 1
  c0 : ∀ k, k < B → c k = 0
  ln : ObC B c 2 W vl ls
  se_ : Ow cI 2 B W vs se
  im_ : Ow cI 2 B W vi im
  cs : ∀ k, vs.ownBlock = some k → c k = 3
  ci : ∀ k, vi.ownBlock = some k → c k = 4
theorem DsM.recl {B g : Nat} {c c' : Nat → Nat} {va vl vs vi : Value} {ls : List Ln} {se im : List Int} {W : World} (h : DsM B g c va vl vs vi ls se im W) (hc : ∀ k, k < W.heap.size → c' k = c k) : DsM B g c' va vl vs vi ls se im W :=
  ⟨h.blk, h.gB, by rw [hc g h.blk.lt, h.cg], (fun k hk => by rw [hc k (by have := h.gB; have := h.blk.lt; omega), h.c0 k hk]), h.ln.recl (fun k hk e => by rw [hc k hk, e]), h.se_, h.im_, (fun k e => by rw [hc k (h.se_.block k e).2, h.cs k e]), fun k e => by rw [hc k (h.im_.block k e).2, h.ci k e]⟩
theorem DsM.kps {B g : Nat} {c : Nat → Nat} {va vl vs vi : Value} {ls : List Ln} {se im : List Int} {W W' : World} {S : Nat → Prop} (h : DsM B g c va vl vs vi ls se im W) (hk : KpS S W W') (hS : ∀ k, S k → c k = 0) : DsM B g c va vl vs vi ls se im W' := by
  have n1 : ∀ k x, c k = x → x ≠ 0 → ¬ S k := fun k x e hx e2 => by rw [hS k e2] at e; omega
  exact ⟨h.blk.kps hk (n1 g 1 h.cg (by decide)), h.gB, h.cg, h.c0, h.ln.kps hk (fun k e e2 => n1 k 2 e2 (by decide) e), h.se_.kps hk (fun k e => n1 k 3 (h.cs k e) (by decide)), h.im_.kps hk (fun k e => n1 k 4 (h.ci k e) (by decide)), h.cs, h.ci⟩
theorem DsM.below {B g : Nat} {c : Nat → Nat} {va vl vs vi : Value} {ls : List Ln} {se im : List Int} {W W' : World} (h : DsM B g c va vl vs vi ls se im W) (hb : Below W.heap.size W W') : DsM B g c va vl vs vi ls se im W' :=
  h.kps (S := fun _ => False) (KpS.of hb) fun k e => e.elim
theorem DsM.add1 {B g : Nat} {c : Nat → Nat} {va vl vs vi : Value} {ls : List Ln} {se im : List Int} {w : World} (h : DsM B g c va vl vs vi ls se im w) {A : Option Addr} {n cc : Nat} {xs : List Nd} (hu : Ow cN 75 B w (.slice A n cc) xs) (hc : ∀ k, (Value.slice A n cc).ownBlock = some k → c k = 0) (y : L3) :
    ∃ hs : List (L3 × Hd), Ow cLn 46 B w vl hs ∧ hs.length = ls.length ∧ ∀ (o : Obj) (w2 : World) (v2 : Value), (w.alloc o).grownBy w2 vl.ownBlock → Ow cLn 46 B w2 v2 (hs ++ [(y, ⟨A, n, cc⟩)]) → (v2.ownBlock = vl.ownBlock ∨ v2.ownBlock = some (w.heap.size + 1)) →
      Blk w2 g 56 #[va, vl, vs, vi] ∧ Blk (w2.setCell ⟨g, 1, none⟩ v2) g 56 #[va, v2, vs, vi] ∧
      ∃ c', DsM B g c' va v2 vs vi (ls ++ [mkLn y xs]) se im (w2.setCell ⟨g, 1, none⟩ v2) ∧ (∀ k, k < w.heap.size → (Value.slice A n cc).ownBlock ≠ some k → c' k = c k) ∧ KpS (fun k => c k = 1 ∨ c k = 2) w (w2.setCell ⟨g, 1, none⟩ v2) := by
  obtain ⟨hs, h1, h2, h3⟩ := h.ln.push hu (fun k e e2 => by rw [hc k e] at e2; cases e2) y
  refine ⟨hs, h1, h2, fun o w2 v2 hg ho hat => ?_⟩
  have hown := h.ln.own
  have hk : KpS (fun k => vl.ownBlock = some k) w w2 := ((KpS.of (below_alloc' w o)).trans (KpS.refl _ _)).grown hg (fun k e => e)
  have hb2 : Blk w2 g 56 #[va, vl, vs, vi] := h.blk.kps hk fun e => by have := (hown g e).1; rw [h.cg] at this; cases this
  have hb3 : Blk (w2.setCell ⟨g, 1, none⟩ v2) g 56 #[va, v2, vs, vi] := hb2.set_ 1 v2
  have hsz : w.heap.size < w2.heap.size := by have := hg.size; have := (below_alloc' w o).size; simp at *; omega
  have hat' : v2.ownBlock = vl.ownBlock ∨ ∃ k, v2.ownBlock = some k ∧ w.heap.size ≤ k := by
    rcases hat with e | e
    · exact .inl e
    · exact .inr ⟨_, e, Nat.le_succ _⟩
  let c' : Nat → Nat := fun k => if k < w.heap.size then (if (Value.slice A n cc).ownBlock = some k then 2 else c k) else 2
  have e1 : ∀ k, k < w.heap.size → (Value.slice A n cc).ownBlock ≠ some k → c' k = c k := fun k hk hn => by show (if _ then _ else _) = _; rw [if_pos hk, if_neg hn]
  have e2 : ∀ k, (Value.slice A n cc).ownBlock = some k → c' k = 2 := fun k e => by show (if _ then _ else _) = _; rw [if_pos (hu.block k e).2, if_pos e]
  have e3 : ∀ k, w.heap.size ≤ k → c' k = 2 := fun k e => by show (if _ then _ else _) = _; rw [if_neg (by omega)]
  have e4 : ∀ k, k < w.heap.size → c k ≠ 0 → c' k = c k := fun k hk hn => e1 k hk fun e => hn (hc k e)
  have cg' : c' g = 1 := by rw [e4 g h.blk.lt (by rw [h.cg]; decide), h.cg]
  have hl := h3 w2 v2 c' hk ho hat' (fun k hk e => by rw [e4 k hk (by rw [e]; decide), e]) e2 e3
  have far : ∀ k x, c' k = x → x ≠ 1 → k ≠ g := fun k x e hx e5 => by rw [e5, cg'] at e; omega
  have hse : ∀ k, vs.ownBlock = some k → c' k = 3 := fun k e => by rw [e4 k (h.se_.block k e).2 (by rw [h.cs k e]; decide), h.cs k e]
  have him : ∀ k, vi.ownBlock = some k → c' k = 4 := fun k e => by rw [e4 k (h.im_.block k e).2 (by rw [h.ci k e]; decide), h.ci k e]
  have ks : KpS (fun k => k = g) w2 (w2.setCell ⟨g, 1, none⟩ v2) := (KpS.refl (fun k => k = g) w2).set (p := ⟨g, 1, none⟩) rfl v2
  refine ⟨hb2, hb3, c', ⟨hb3, h.gB, cg', (fun k hk => by rw [e1 k (by have := h.gB; have := h.blk.lt; omega) (fun e => by have := (hu.block k e).1; omega), h.c0 k hk]), hl.kps ks (fun k e e5 => far k 2 e5 (by decide) e), ?_, ?_, hse, him⟩, e1, ?_⟩
  · refine (h.se_.kps hk fun k e e5 => ?_).kps ks fun k e => far k 3 (hse k e) (by decide)
    have := (hown k e5).1; rw [h.cs k e] at this; cases this
  · refine (h.im_.kps hk fun k e e5 => ?_).kps ks fun k e => far k 4 (him k e) (by decide)
    have := (hown k e5).1; rw [h.ci k e] at this; cases this
  · refine KpS.set (KpS.mono hk fun k e => .inr (hown k e).1) (p := ⟨g, 1, none⟩) (.inl h.cg) v2
theorem DsM.addS {B g : Nat} {c : Nat → Nat} {va vl vs vi : Value} {ls : List Ln} {se im : List Int} {w : World} (h : DsM B g c va vl vs vi ls se im w) (o : Obj) (w2 : World) (v2 : Value) (x : Int) (hg : (w.alloc o).grownBy w2 vs.ownBlock) (ho : Ow cI 2 B w2 v2 (se ++ [x])) (hat : v2.ownBlock = vs.ownBlock ∨ v2.ownBlock = some (w.heap.size + 1)) :
    Blk w2 g 56 #[va, vl, vs, vi] ∧ Blk (w2.setCell ⟨g, 2, none⟩ v2) g 56 #[va, vl, v2, vi] ∧
      ∃ c', DsM B g c' va vl v2 vi ls (se ++ [x]) im (w2.setCell ⟨g, 2, none⟩ v2) ∧ (∀ k, k < w.heap.size → c' k = c k) ∧ KpS (fun k => c k = 1 ∨ c k = 3) w (w2.setCell ⟨g, 2, none⟩ v2) := by
  have hk : KpS (fun k => vs.ownBlock = some k) w w2 := ((KpS.of (below_alloc' w o)).trans (KpS.refl _ _)).grown hg (fun k e => e)
  have hb2 : Blk w2 g 56 #[va, vl, vs, vi] := h.blk.kps hk fun e => by have := h.cs g e; rw [h.cg] at this; cases this
  have hb3 : Blk (w2.setCell ⟨g, 2, none⟩ v2) g 56 #[va, vl, v2, vi] := hb2.set_ 2 v2
  let c' : Nat → Nat := fun k => if k < w.heap.size then c k else 3
  have e1 : ∀ k, k < w.heap.size → c' k = c k := fun k hk => by show (if _ then _ else _) = _; rw [if_pos hk]
  have e3 : ∀ k, w.heap.size ≤ k → c' k = 3 := fun k e => by show (if _ then _ else _) = _; rw [if_neg (by omega)]
  have hr := h.recl (c' := c') e1
  have hS : ∀ k, vs.ownBlock = some k → c' k = 3 := hr.cs
  have ks : KpS (fun k => k = g) w2 (w2.setCell ⟨g, 2, none⟩ v2) := (KpS.refl (fun k => k = g) w2).set (p := ⟨g, 2, none⟩) rfl v2
  have far : ∀ k x, c' k = x → x ≠ 1 → ¬ k = g := fun k x e hx e5 => by rw [e5, hr.cg] at e; omega
  have hv2 : ∀ k, v2.ownBlock = some k → c' k = 3 := fun k e => by
    rcases hat with e5 | e5
    · exact hS k (e5 ▸ e)
    · rw [e5] at e; injection e with e; exact e3 k (by omega)
  refine ⟨hb2, hb3, c', ⟨hb3, h.gB, hr.cg, hr.c0, ?_, ?_, ?_, hv2, hr.ci⟩, e1, ?_⟩
  · exact (hr.ln.kps hk fun k e => by rw [hS k e]; decide).kps ks fun k e e5 => far k 2 e5 (by decide) e
  · exact ho.kps ks fun k e => far k 3 (hv2 k e) (by decide)
  · exact (h.im_.kps hk fun k e e5 => by have := hS k e5; rw [hr.ci k e] at this; cases this).kps ks fun k e => far k 4 (hr.ci k e) (by decide)
  · exact KpS.set (KpS.mono hk fun k e => .inr (h.cs k e)) (p := ⟨g, 2, none⟩) (.inl h.cg) v2
theorem DsM.addI {B g : Nat} {c : Nat → Nat} {va vl vs vi : Value} {ls : List Ln} {se im : List Int} {w : World} (h : DsM B g c va vl vs vi ls se im w) (o : Obj) (w2 : World) (v2 : Value) (x : Int) (hg : (w.alloc o).grownBy w2 vi.ownBlock) (ho : Ow cI 2 B w2 v2 (im ++ [x])) (hat : v2.ownBlock = vi.ownBlock ∨ v2.ownBlock = some (w.heap.size + 1)) :
    Blk w2 g 56 #[va, vl, vs, vi] ∧ Blk (w2.setCell ⟨g, 3, none⟩ v2) g 56 #[va, vl, vs, v2] ∧
      ∃ c', DsM B g c' va vl vs v2 ls se (im ++ [x]) (w2.setCell ⟨g, 3, none⟩ v2) ∧ (∀ k, k < w.heap.size → c' k = c k) ∧ KpS (fun k => c k = 1 ∨ c k = 4) w (w2.setCell ⟨g, 3, none⟩ v2) := by
  have hk : KpS (fun k => vi.ownBlock = some k) w w2 := ((KpS.of (below_alloc' w o)).trans (KpS.refl _ _)).grown hg (fun k e => e)
  have hb2 : Blk w2 g 56 #[va, vl, vs, vi] := h.blk.kps hk fun e => by have := h.ci g e; rw [h.cg] at this; cases this
  have hb3 : Blk (w2.setCell ⟨g, 3, none⟩ v2) g 56 #[va, vl, vs, v2] := hb2.set_ 3 v2
  let c' : Nat → Nat := fun k => if k < w.heap.size then c k else 4
  have e1 : ∀ k, k < w.heap.size → c' k = c k := fun k hk => by show (if _ then _ else _) = _; rw [if_pos hk]
  have e3 : ∀ k, w.heap.size ≤ k → c' k = 4 := fun k e => by show (if _ then _ else _) = _; rw [if_neg (by omega)]
  have hr := h.recl (c' := c') e1
  have hS : ∀ k, vi.ownBlock = some k → c' k = 4 := hr.ci
  have ks : KpS (fun k => k = g) w2 (w2.setCell ⟨g, 3, none⟩ v2) := (KpS.refl (fun k => k = g) w2).set (p := ⟨g, 3, none⟩) rfl v2
  have far : ∀ k x, c' k = x → x ≠ 1 → ¬ k = g := fun k x e hx e5 => by rw [e5, hr.cg] at e; omega
  have hv2 : ∀ k, v2.ownBlock = some k → c' k = 4 := fun k e => by
    rcases hat with e5 | e5
    · exact hS k (e5 ▸ e)
    · rw [e5] at e; injection e with e; exact e3 k (by omega)
  refine ⟨hb2, hb3, c', ⟨hb3, h.gB, hr.cg, hr.c0, ?_, ?_, ?_, hr.cs, hv2⟩, e1, ?_⟩
  · exact (hr.ln.kps hk fun k e => by rw [hS k e]; decide).kps ks fun k e e5 => far k 2 e5 (by decide) e
  · exact (h.se_.kps hk fun k e e5 => by have := hS k e5; rw [hr.cs k e] at this; cases this).kps ks fun k e => far k 3 (hr.cs k e) (by decide)
  · exact ho.kps ks fun k e => far k 4 (hv2 k e) (by decide)
  · exact KpS.set (KpS.mono hk fun k e => .inr (h.ci k e)) (p := ⟨g, 3, none⟩) (.inl h.cg) v2
/-- what was there before the discharger stays -/
theorem DsM.toB {B g : Nat} {c : Nat → Nat} {va vl vs vi : Value} {ls : List Ln} {se im : List Int} {w w' : World} (h : DsM B g c va vl vs vi ls se im w) {S : Nat → Prop} (hk : KpS S w w') (hS : ∀ k, S k → c k ≠ 0) : Below B w w' :=
  hk.toBelow (by have := h.gB; have := h.blk.lt; omega) fun k e e2 => hS k e2 (h.c0 k e)
set_option maxRecDepth 100000 in
set_option maxHeartbeats 2000000 in
theorem impl_add {B g : Nat} {c : Nat → Nat} {va vl vs vi : Value} {ls : List Ln} {se im : List Int} {w : World} (h : DsM B g c va vl vs vi ls se im w) {A : Option Addr} {n cc : Nat} {xs : List Nd} (hu : Ow cN 75 B w (.slice A n cc) xs) (hc : ∀ k, (Value.slice A n cc).ownBlock = some k → c k = 0) (r f s : Int) (hl : ls.length ≤ 1000) :
    Calls Tryz.prog 48 #[.pointer (some ⟨g, 0, none⟩), .int .i64 r, .int .i64 f, .int .i64 s, .slice A n cc] w fun e w' => e = .returned (.int .i64 ls.length) ∧ ∃ vl' c', DsM B g c' va vl' vs vi (ls ++ [⟨r, f, s, xs⟩]) se im w' ∧
      (∀ k, k < w.heap.size → (Value.slice A n cc).ownBlock ≠ some k → c' k = c k) ∧ KpS (fun k => c k = 1 ∨ c k = 2) w w' := by
  obtain ⟨hs, ho, hlen, hK⟩ := h.add1 hu hc (r, f, s)
  have HK := Lib.hid hK
  have HO := Lib.hid ho
  have HSZ := Lib.hid (show B ≤ w.heap.size by have := h.gB; have := h.blk.lt; omega)
  have d1 := h.blk.cell 1
  have ld := h.blk.lt
  obtain ⟨Al, cl, rfl⟩ := h.ln.opn
  clear h hK ho hu hc
  go_enter Tryz.func48, Tryz.ntmps48
  go_wp2_with (at_builtin; refine stopHere ?_)
  refine goHere ?_
  refine ap_one (K := cLn) w ty_line rfl _ _ rfl (B := B) (v := .slice Al ls.length cl) (xs := hs) rfl HO.out ((r, f, s), ⟨A, n, cc⟩) rfl rfl (by omega) HSZ.out ?_
  intro v2 w2 ho2 hg2 hb2 hat2
  obtain ⟨hb, hb3, c', hd, hc', hk⟩ := HK.out _ w2 v2 hg2 ho2 hat2
  obtain ⟨A2, c2, rfl⟩ := ho2.opn
  have HB2 := Lib.hid hb
  have hlv : (hs ++ [((r, f, s), (⟨A, n, cc⟩ : Hd))]).length = ls.length + 1 := by simp [hlen]
  rw [hlv] at hb3 hd hk ⊢
  have d1' := hb.cell 1
  have f1 := hb.frozen 1
  have ld' := hb.lt
  have e1 := hb3.cell 1
  have le := hb3.lt
  have HD := Lib.hid hd
  have HC := Lib.hid hc'
  have HKK := Lib.hid hk
  have HLE := Lib.hid hlen
  clear hb hb3 hd hc' hk ho2 hg2 hb2 hat2 HO HK HB2 hlv hlen
  go_wp2_with fail
  refine (impl_size_lns A2 (ls.length + 1) c2 _).mono ?_
  rintro e w3 ⟨rfl, rfl⟩
  go_wp2
  go_ret
  refine ⟨by go_num, _, c', HD.out, HC.out, HKK.out⟩
end Go.Proofs.YtcikenffeekkeaaGreatDoor

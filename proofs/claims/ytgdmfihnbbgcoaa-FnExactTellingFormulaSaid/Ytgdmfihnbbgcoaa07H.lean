/- Contracts of chapter 7, of the reference: the table of telling formulas, as it is written. -/
import Derived.Test.Ytgdmfihnbbgcoaa07G
namespace Go.Proofs.Ytgdmfihnbbgcoaa
open Go.RowKit
set_option linter.unusedVariables false
set_option linter.unusedSimpArgs false
theorem Sl.setFar {α : Type} {K : Cod α} {w : World} {v : Value} {xs : List α} (h : Sl K w v xs) {p : Addr} (hp : v.ownBlock ≠ some p.block) (u : Value) : Sl K (w.setCell p u) v xs := by
  obtain ⟨A, c, rfl, hc, hm, hr⟩ := h
  refine ⟨A, c, rfl, hc, hm, ?_⟩
  rcases hr with hr | ⟨b, o, rfl, hb, hcell⟩
  · exact .inl hr
  · refine .inr ⟨b, o, rfl, by simpa [World.setCell] using hb, fun k x hx => ?_⟩
    rw [World.cell?_setCell_far _ _ _ _ (fun e => hp (by show some b = _; rw [e]))]
    exact hcell k x hx
/-- rows of nothing, made one behind another -/
def TdG (B : Nat) (w : World) (vt : Value) (K X : Nat) : Prop :=
  ∃ (rows : List Hd) (g : Nat → Nat), Ow cH 30 B w vt rows ∧ rows.length = X ∧ ∀ i (hi : i < rows.length), rows[i] = ⟨some ⟨g i, 0, none⟩, K, K⟩ ∧ B ≤ g i ∧ vt.ownBlock ≠ some (g i) ∧ (∀ i', i' < i → g i' ≠ g i) ∧ Ow cH 26 B w (.slice (some ⟨g i, 0, none⟩) K K) (List.replicate K ⟨none, 0, 0⟩)
theorem TdG.below {B : Nat} {w w' : World} {vt : Value} {K X : Nat} (h : TdG B w vt K X) (hb : Below w.heap.size w w') : TdG B w' vt K X := by
  obtain ⟨rows, g, h1, h2, h3⟩ := h
  exact ⟨rows, g, h1.below hb, h2, fun i hi => by
    obtain ⟨a1, a2, a3, a4, a5⟩ := h3 i hi
    exact ⟨a1, a2, a3, a4, a5.below hb⟩⟩
theorem TdG.nil {B : Nat} {w : World} {vt : Value} {K : Nat} (h : Ow cH 30 B w vt []) : TdG B w vt K 0 := ⟨[], fun _ => 0, h, rfl, fun i hi => by simp at hi⟩
theorem TdG.push {B : Nat} {w w1 : World} {vt : Value} {K X : Nat} (h : TdG B w vt K X) (hB : B ≤ w.heap.size) (hg1 : w.grownBy w1 none) (hz : w.heap.size < w1.heap.size) (hm : Ow cH 26 B w1 (.slice (some ⟨w.heap.size, 0, none⟩) K K) (List.replicate K ⟨none, 0, 0⟩)) :
    ∃ rows : List Hd, Ow cH 30 B w1 vt rows ∧ rows.length = X ∧ ∀ w' v' cs e, Ow cH 30 B w' v' (rows ++ [⟨some ⟨w.heap.size, 0, none⟩, K, K⟩]) → (w1.alloc (.cells cs e)).grownBy w' vt.ownBlock →
      (v'.ownBlock = vt.ownBlock ∨ v'.ownBlock = some (w1.heap.size + 1)) → TdG B w' v' K (X + 1) := by
  obtain ⟨rows, g, h1, h2, h3⟩ := h
  have kn : ∀ v : Value, v.ownBlock = none ∨ v.ownBlock ≠ none := fun v => by
    cases hq : v.ownBlock with
    | none => exact .inl rfl
    | some k => exact .inr (by simp)
  refine ⟨rows, h1.kept hg1 (kn _), h2, fun w' v' cs e ho hg2 hat => ?_⟩
  refine ⟨_, fun i => if i < rows.length then g i else w.heap.size, ho, by simp [h2], fun i hi => ?_⟩
  have hvt : ∀ k, vt.ownBlock = some k → k < w.heap.size := fun k hk => (h1.block k hk).2
  by_cases hlt : i < rows.length
  · obtain ⟨a1, a2, a3, a4, a5⟩ := h3 i hlt
    have hgi := (a5.block (g i) rfl).2
    simp only [if_pos hlt]
    rw [List.getElem_append_left hlt]
    refine ⟨a1, a2, fun e3 => ?_, fun i' hi' => ?_, ((a5.kept hg1 (.inr (by simp [Value.ownBlock]))).alloc _).kept hg2 (.inr fun e4 => a3 e4.symm)⟩
    · rcases hat with e2 | e2
      · exact a3 (e2 ▸ e3)
      · rw [e2] at e3; injection e3 with e3; omega
    · rw [if_pos (by omega)]; exact a4 i' hi'
  · have hi2 : i = rows.length := by simp at hi; omega
    subst hi2
    simp only [Nat.lt_irrefl, if_false]
    refine ⟨by simp, hB, fun e3 => ?_, fun i' hi' => ?_, (hm.alloc _).kept hg2 (.inr fun e4 => ?_)⟩
    · rcases hat with e2 | e2
      · have := hvt _ (e2 ▸ e3); omega
      · rw [e2] at e3; injection e3 with e3; omega
    · rw [if_pos hi']
      obtain ⟨a1, a2, a3, a4, a5⟩ := h3 i' hi'
      have := (a5.block (g i') rfl).2
      omega
    · have := hvt _ e4.symm; exact absurd this (Nat.lt_irrefl _)
/-- a table of formulas that is written: rows of the call's own, made before all formulas -/
def TdW (B M : Nat) (w : World) (vt : Value) (N K : Nat) (T : Nat → Nat → Option (List Nd)) : Prop :=
  M ≤ w.heap.size ∧ ∃ (rows : List Hd) (g : Nat → Nat), Ow cH 30 B w vt rows ∧ rows.length = N ∧ (∀ k, vt.ownBlock = some k → k < M) ∧ ∀ i (hi : i < rows.length), rows[i] = ⟨some ⟨g i, 0, none⟩, K, K⟩ ∧ B ≤ g i ∧ g i < M ∧ vt.ownBlock ≠ some (g i) ∧ (∀ i', i' < rows.length → i' ≠ i → g i' ≠ g i) ∧
    ∃ cs : List Hd, Ow cH 26 B w (.slice (some ⟨g i, 0, none⟩) K K) cs ∧ cs.length = K ∧ ∀ j (hj : j < cs.length), Sl cN w cs[j].val ((T i j).getD []) ∧ ∀ k, cs[j].val.ownBlock = some k → M ≤ k ∧ k < w.heap.size
theorem TdG.td {B : Nat} {w : World} {vt : Value} {N K : Nat} (h : TdG B w vt K N) : TdW B w.heap.size w vt N K (fun _ _ => none) := by
  obtain ⟨rows, g, h1, h2, h3⟩ := h
  refine ⟨Nat.le_refl _, rows, g, h1, h2, fun k hk => (h1.block k hk).2, fun i hi => ?_⟩
  obtain ⟨a1, a2, a3, a4, a5⟩ := h3 i hi
  refine ⟨a1, a2, (a5.block (g i) rfl).2, a3, fun i' hi' hne => ?_, _, a5, by simp, fun j hj => ?_⟩
  · rcases Nat.lt_or_ge i' i with h5 | h5
    · exact a4 i' h5
    · obtain ⟨b1, b2, b3, b4, b5⟩ := h3 i' hi'
      exact (b4 i (by omega)).symm
  · rw [List.getElem_replicate]
    exact ⟨Sl.nil, fun k hk => by cases hk⟩
theorem TdW.below {B M : Nat} {w w' : World} {vt : Value} {N K : Nat} {T : Nat → Nat → Option (List Nd)} (h : TdW B M w vt N K T) (hb : Below w.heap.size w w') : TdW B M w' vt N K T := by
  obtain ⟨h0, rows, g, h1, h2, h4, h3⟩ := h
  refine ⟨Nat.le_trans h0 hb.size, rows, g, h1.below hb, h2, h4, fun i hi => ?_⟩
  obtain ⟨a1, a2, a3, a4, a5, cs, a6, a7, a8⟩ := h3 i hi
  exact ⟨a1, a2, a3, a4, a5, cs, a6.below hb, a7, fun j hj => ⟨(a8 j hj).1.below hb, fun k hk => ⟨((a8 j hj).2 k hk).1, Nat.lt_of_lt_of_le ((a8 j hj).2 k hk).2 hb.size⟩⟩⟩
theorem TdW.rd {B M : Nat} {w : World} {vt : Value} {N K : Nat} {T : Nat → Nat → Option (List Nd)} (h : TdW B M w vt N K T) : TdR w vt N K T := by
  obtain ⟨h0, rows, g, h1, h2, h4, h3⟩ := h
  refine ⟨rows, h1.sl, h2, fun i hi => ?_⟩
  obtain ⟨a1, a2, a3, a4, a5, cs, a6, a7, a8⟩ := h3 i hi
  exact ⟨cs, by rw [a1]; exact a6.sl, a7, fun j hj => ⟨(a8 j hj).1, fun k hk => ((a8 j hj).2 k hk).2⟩⟩
theorem TdW.put {B M : Nat} {w : World} {A : Option Addr} {n c : Nat} {N K : Nat} {T : Nat → Nat → Option (List Nd)} (h : TdW B M w (.slice A n c) N K T) {x y : Nat} (hx : x < N) (hy : y < K) :
    ∃ b gx, A = some ⟨b, 0, none⟩ ∧ b < w.heap.size ∧ w.cell? ⟨b, x, none⟩ = some (.slice (some ⟨gx, 0, none⟩) K K) ∧ B ≤ gx ∧ gx < w.heap.size ∧ b ≠ gx ∧ w.frozen? ⟨gx, y, none⟩ = false ∧ (∃ u0, w.cell? ⟨gx, y, none⟩ = some u0) ∧
      ∀ w1, Below w.heap.size w w1 → ∀ (u : Hd) (xs : Option (List Nd)), Sl cN w1 u.val (xs.getD []) → (∀ k, u.val.ownBlock = some k → w.heap.size ≤ k ∧ k < w1.heap.size) →
        TdW B M (w1.setCell ⟨gx, y, none⟩ u.val) (.slice A n c) N K (fun i j => if i = x ∧ j = y then xs else T i j) := by
  obtain ⟨h0, rows, g, h1, h2, h4, h3⟩ := h
  have hx' : x < rows.length := by omega
  obtain ⟨a1, a2, a3, a4, a5, cs, a6, a7, a8⟩ := h3 x hx'
  have hy' : y < cs.length := by omega
  obtain ⟨A', c', e0⟩ := h1.opn
  injection e0 with e1 e2 e3
  subst e1; subst e2; subst e3
  obtain ⟨b, e1, hbB, hbz⟩ := h1.head (by omega)
  subst e1
  obtain ⟨d1, d2, -, -⟩ := h1.at1 rfl hx' (u := rows[x].val) rfl
  rw [a1] at d1
  obtain ⟨f1, f2, -, -⟩ := a6.at1 rfl hy' (u := cs[y].val) rfl
  refine ⟨b, g x, rfl, hbz, d1, a2, by omega, fun e => a4 (by rw [← e]; rfl), f2, ⟨_, f1⟩, fun w1 hb u xs hu hk => ?_⟩
  have hne : ∀ v : Value, (∀ k, v.ownBlock = some k → M ≤ k) → v.ownBlock ≠ some (g x) := fun v hv e => by have := hv _ e; omega
  refine ⟨by have := hb.size; simp [World.setCell]; omega, rows, g, (h1.below hb).far (p := ⟨g x, y, none⟩) a4 _, h2, h4, fun i hi => ?_⟩
  obtain ⟨b1, b2, b3, b4, b5, ds, b6, b7, b8⟩ := h3 i hi
  refine ⟨b1, b2, b3, b4, b5, ?_⟩
  have hzz : (w1.setCell ⟨g x, y, none⟩ u.val).heap.size = w1.heap.size := by simp [World.setCell]
  by_cases hix : i = x
  · subst hix
    refine ⟨cs.set y u, (a6.below hb).set1 rfl rfl hy', by simp [a7], fun j hj => ?_⟩
    rw [hzz]
    simp only [List.length_set] at hj
    rw [List.getElem_set]
    by_cases hjy : y = j
    · subst hjy
      dsimp only
      rw [if_pos rfl, if_pos ⟨rfl, rfl⟩]
      exact ⟨hu.setFar (hne _ fun k e => by have := hk k e; omega) _, fun k e => by have := hk k e; omega⟩
    · dsimp only
      rw [if_neg hjy, if_neg (fun e => hjy e.2.symm)]
      obtain ⟨q1, q2⟩ := a8 j hj
      exact ⟨(q1.below hb).setFar (hne _ fun k e => (q2 k e).1) _, fun k e => ⟨(q2 k e).1, Nat.lt_of_lt_of_le (q2 k e).2 hb.size⟩⟩
  · refine ⟨ds, (b6.below hb).far (p := ⟨g x, y, none⟩) (fun e => b5 x hx' (fun e => hix e.symm) (by injection e with e; exact e.symm)) _, b7, fun j hj => ?_⟩
    dsimp only
    rw [if_neg (fun e => hix e.1), hzz]
    obtain ⟨q1, q2⟩ := b8 j hj
    exact ⟨(q1.below hb).setFar (hne _ fun k e => (q2 k e).1) _, fun k e => ⟨(q2 k e).1, Nat.lt_of_lt_of_le (q2 k e).2 hb.size⟩⟩
theorem ty_nodes3 : Ty Try.prog 110 30 (.slice none 0 0) 1 24 := Ty.mk' Try.underlying110 (by kernel_rfl) rfl (by decide)
end Go.Proofs.Ytgdmfihnbbgcoaa

/- Joined of several texts: 18N, 18P, 18V. -/
import Derived.Test.YtgkogfjifcfkoaaGreatY29
import Derived.Test.YtgkogfjifcfkoaaGreatY02
import Derived.StillTailTactics
namespace Go.Proofs.YtgkogfjifcfkoaaGreat
open Go.RowKit
set_option linter.unusedVariables false
set_option linter.unusedSimpArgs false
/- The laws' own functions on lists of lists of int64 in the one form, and such an argument opened. Written by gen18N.py. -/
/-- lists of nodes of the call's own, made one behind the other: their headers from B on, each list below H -/
def ObT (B H : Nat) (w : World) (v : Value) (xss : List (List Int)) : Prop :=
  ∃ (hs : List Hd) (b : Nat → Nat), Ob cH 27 B (b 0) w v hs ∧ hs.length = xss.length ∧ B ≤ b 0 ∧ (∀ i, b i ≤ b (i + 1)) ∧ (∀ i, b i ≤ H) ∧
    ∀ i (p : i < hs.length) (q : i < xss.length), Ob cI 2 (b i) (b (i + 1)) w hs[i].val xss[i]
section
variable {B H : Nat} {w w' : World} {v : Value} {xss : List (List Int)}
theorem ObT.sl (h : ObT B H w v xss) : Sl2 cI w v xss := by
  obtain ⟨hs, b, h1, h2, -, -, -, h3⟩ := h
  exact ⟨hs, h1.sl, h2, fun i p q => (h3 i p q).sl⟩
theorem ObT.opn (h : ObT B H w v xss) : ∃ A c, v = .slice A xss.length c := h.sl.opn
theorem mono_ofI {b : Nat → Nat} (h : ∀ i, b i ≤ b (i + 1)) {i j : Nat} (hij : i ≤ j) : b i ≤ b j := by
  induction hij with
  | refl => exact Nat.le_refl _
  | step _ ih => exact Nat.le_trans ih (h _)
theorem ObT.below (h : ObT B H w v xss) (hb : Below w.heap.size w w') : ObT B H w' v xss := by
  obtain ⟨hs, b, h1, h2, h3, h4, h5, h6⟩ := h
  exact ⟨hs, b, h1.below hb, h2, h3, h4, h5, fun i p q => (h6 i p q).below hb⟩
theorem ObT.keep {B' H' : Nat} (h : ObT B H w v xss) (k : Keep B' H' w w') (hd : H ≤ B' ∨ H' ≤ B) : ObT B H w' v xss := by
  obtain ⟨hs, b, h1, h2, h3, h4, h5, h6⟩ := h
  have e0 := h5 0
  refine ⟨hs, b, h1.keep k (by omega), h2, h3, h4, h5, fun i p q => (h6 i p q).keep k ?_⟩
  have e1 := h5 (i + 1)
  have e2 := mono_ofI h4 (Nat.zero_le i)
  omega
end
theorem hsetI (hs : List Hd) (n k : Nat) (z x : Hd) (hk : k < n) (hl : hs.length = k) : (hs ++ List.replicate (n - k) z).set k x = (hs ++ [x]) ++ List.replicate (n - (k + 1)) z := by
  rw [List.set_append, if_neg (by omega), hl, Nat.sub_self]
  obtain ⟨m, hm⟩ : ∃ m, n - k = m + 1 := ⟨n - k - 1, by omega⟩
  rw [hm, List.replicate_succ, List.set_cons_zero, show n - (k + 1) = m by omega, List.append_assoc]
  rfl
/-- k lists have been copied -/
structure TNI (g : Nat) (xss : List (List Int)) (k : Nat) (w X : World) (hs : List Hd) (b : Nat → Nat) : Prop where
  len : hs.length = k
  row : Ow cH 27 g X (.slice (some ⟨g, 0, none⟩) xss.length xss.length) (hs ++ List.replicate (xss.length - k) ⟨none, 0, 0⟩)
  b0 : g + 1 ≤ b 0
  mono : ∀ i, b i ≤ b (i + 1)
  top : ∀ i, b i ≤ X.heap.size
  ob : ∀ i (p : i < hs.length) (q : i < xss.length), Ob cI 2 (b i) (b (i + 1)) X hs[i].val xss[i]
  be : Below g w X
theorem TNI.step {g k : Nat} {xss : List (List Int)} {w X Y : World} {hs : List Hd} {b : Nat → Nat} (h : TNI g xss k w X hs b) (hk : k < xss.length) {A : Option Addr} {c : Nat} (ho : Ob cI 2 X.heap.size Y.heap.size Y (.slice A (xss[k]'hk).length c) (xss[k]'hk)) (hb : Below X.heap.size X Y) (hg : g ≤ X.heap.size) :
    ∃ hs' b', TNI g xss (k + 1) w (Y.setCell ⟨g, k, none⟩ (.slice A (xss[k]'hk).length c)) hs' b' := by
  have hrow := h.row.below hb
  have hset1 := hrow.set1 (j := k) (x := (⟨A, (xss[k]'hk).length, c⟩ : Hd)) (u := .slice A (xss[k]'hk).length c) rfl rfl (by simp [h.len]; omega)
  rw [hsetI hs xss.length k _ _ hk h.len] at hset1
  have hfar : ∀ {B' H' : Nat} {v : Value} {xs : List Int}, g + 1 ≤ B' → Ob cI 2 B' H' Y v xs → Ob cI 2 B' H' (Y.setCell ⟨g, k, none⟩ (.slice A (xss[k]'hk).length c)) v xs := fun {B' H' v xs} hB' hv =>
    ⟨hv.1.far (fun e => by have h9 : B' ≤ g := (hv.1.block _ e).1; omega) _, hv.2⟩
  refine ⟨hs ++ [⟨A, (xss[k]'hk).length, c⟩], fun i => if i ≤ k then b i else Y.heap.size, by simp [h.len], hset1, by simpa using h.b0, fun i => ?_, fun i => ?_, fun i p q => ?_, (h.be.trans (hb.mono hg)).setCell (Nat.le_refl _) _⟩
  · have h1 := h.top i
    have h2 := hb.size
    by_cases hi : i + 1 ≤ k
    · rw [if_pos (show i ≤ k by omega), if_pos hi]; exact h.mono i
    · rw [if_neg hi]
      split
      · omega
      · exact Nat.le_refl _
  · have h1 := h.top i
    have h2 := hb.size
    have h3 : (Y.setCell ⟨g, k, none⟩ (.slice A (xss[k]'hk).length c)).heap.size = Y.heap.size := by simp [World.setCell]
    rw [h3]
    show (if i ≤ k then b i else Y.heap.size) ≤ Y.heap.size
    split <;> omega
  · have hb0 := h.b0
    by_cases hi : i < hs.length
    · have := h.len
      rw [List.getElem_append_left hi]
      show Ob _ _ (if i ≤ k then b i else Y.heap.size) (if i + 1 ≤ k then b (i + 1) else Y.heap.size) _ _ _
      rw [if_pos (show i ≤ k by omega), if_pos (show i + 1 ≤ k by omega)]
      have hm := mono_ofI h.mono (Nat.zero_le i)
      exact hfar (by omega) ((h.ob i hi q).below hb)
    · have hl := h.len
      have e : i = hs.length := by simp at p; omega
      have e' : i = k := by omega
      subst e'
      have e2 : (hs ++ [(⟨A, (xss[i]'hk).length, c⟩ : Hd)])[i] = ⟨A, (xss[i]'hk).length, c⟩ := by simp [e]
      rw [e2]
      show Ob _ _ (if i ≤ i then b i else Y.heap.size) (if i + 1 ≤ i then b (i + 1) else Y.heap.size) _ _ _
      rw [if_pos (Nat.le_refl _), if_neg (show ¬ i + 1 ≤ i by omega)]
      have hm := mono_ofI h.mono (Nat.zero_le i)
      exact hfar (by omega) ⟨ho.1.mono (h.top i), ho.2⟩
theorem TNI.fin {g : Nat} {xss : List (List Int)} {w X : World} {hs : List Hd} {b : Nat → Nat} (h : TNI g xss xss.length w X hs b) : ObT g X.heap.size X (.slice (some ⟨g, 0, none⟩) xss.length xss.length) xss := by
  have hr := h.row
  rw [Nat.sub_self, List.replicate_zero, List.append_nil] at hr
  refine ⟨hs, b, ⟨hr, fun k hk => ?_⟩, h.len, by have := h.b0; omega, h.mono, h.top, h.ob⟩
  have hk' : g = k := by injection hk
  have := h.b0
  omega
open Go.RowKit Go.ChangeShapes Go.WideShapes Go.Deep in
/- An argument's datum that is a struct of five fields, opened. -/
open Go.ChangeShapes Go.WideShapes Go.ChangeAt Go.RowKit Go.Joins Go.Deep Go.Lib in
/- Tables of the call's own whose rows lie in blocks apart from each other; the laws' marks on them; Heyting algebras made of them. -/
/-- a table in blocks from lo below hi: the row of headers, and rows apart from it and from each other -/
def ObS (lo hi : Nat) (w : World) (v : Value) (xss : List (List Int)) : Prop :=
  ∃ hs : List Hd, Ow cH 27 lo w v hs ∧ hs.length = xss.length ∧ (∀ k, v.ownBlock = some k → k < hi) ∧
    (∀ i (a : i < hs.length) (b : i < xss.length), Ow cI 2 lo w hs[i].val xss[i] ∧ ∀ k, hs[i].val.ownBlock = some k → k < hi ∧ v.ownBlock ≠ some k) ∧
    ∀ i j (a : i < hs.length) (b : j < hs.length), i ≠ j → ∀ k, hs[i].val.ownBlock = some k → hs[j].val.ownBlock ≠ some k
section
variable {lo hi : Nat} {w w' : World} {v : Value} {xss : List (List Int)}
theorem ObS.sl (h : ObS lo hi w v xss) : Sl2 cI w v xss := by
  obtain ⟨hs, h1, h2, -, h3, -⟩ := h
  exact ⟨hs, h1.sl, h2, fun i a b => (h3 i a b).1.sl⟩
theorem ObS.opn (h : ObS lo hi w v xss) : ∃ A c, v = .slice A xss.length c := h.sl.opn
theorem ObS.below (h : ObS lo hi w v xss) (hb : Below w.heap.size w w') : ObS lo hi w' v xss := by
  obtain ⟨hs, h1, h2, h3, h4, h5⟩ := h
  exact ⟨hs, h1.below hb, h2, h3, fun i a b => ⟨(h4 i a b).1.below hb, (h4 i a b).2⟩, h5⟩
theorem ObS.wide {lo' hi' : Nat} (h : ObS lo hi w v xss) (hl : lo' ≤ lo) (hh : hi ≤ hi') : ObS lo' hi' w v xss := by
  obtain ⟨hs, h1, h2, h3, h4, h5⟩ := h
  exact ⟨hs, h1.mono hl, h2, fun k e => Nat.lt_of_lt_of_le (h3 k e) hh, fun i a b => ⟨(h4 i a b).1.mono hl, fun k e => ⟨Nat.lt_of_lt_of_le ((h4 i a b).2 k e).1 hh, ((h4 i a b).2 k e).2⟩⟩, h5⟩
theorem ObS.keep {B' H' : Nat} (h : ObS lo hi w v xss) (k : Keep B' H' w w') (hd : hi ≤ B' ∨ H' ≤ lo) : ObS lo hi w' v xss := by
  obtain ⟨hs, h1, h2, h3, h4, h5⟩ := h
  have e1 : Ob cH 27 lo hi w v hs := ⟨h1, h3⟩
  refine ⟨hs, (e1.keep k hd).1, h2, h3, fun i a b => ?_, h5⟩
  have e2 : Ob cI 2 lo hi w hs[i].val xss[i] := ⟨(h4 i a b).1, fun k e => ((h4 i a b).2 k e).1⟩
  exact ⟨(e2.keep k hd).1, (h4 i a b).2⟩
theorem ObS.setBelow (h : ObS lo hi w v xss) {p : Addr} (hp : p.block < lo) (u : Value) : ObS lo hi (w.setCell p u) v xss := by
  obtain ⟨hs, h1, h2, h3, h4, h5⟩ := h
  exact ⟨hs, h1.setBelow hp u, h2, h3, fun i a b => ⟨(h4 i a b).1.setBelow hp u, (h4 i a b).2⟩, h5⟩
theorem ObS.grown {row : Option Nat} (h : ObS lo hi w v xss) (hg : w.grownBy w' row) (hr : ∀ k, row = some k → k < lo ∨ hi ≤ k) : ObS lo hi w' v xss := by
  obtain ⟨hs, h1, h2, h3, h4, h5⟩ := h
  have key : ∀ u : Value, (∀ k, u.ownBlock = some k → lo ≤ k ∧ k < hi) → u.ownBlock = none ∨ u.ownBlock ≠ row := fun u hu => by
    cases hq : u.ownBlock with
    | none => exact .inl rfl
    | some k => exact .inr fun e => by have := hr k e.symm; have := hu k hq; omega
  exact ⟨hs, h1.kept hg (key _ fun k e => ⟨(h1.block k e).1, h3 k e⟩), h2, h3, fun i a b => ⟨(h4 i a b).1.kept hg (key _ fun k e => ⟨((h4 i a b).1.block k e).1, ((h4 i a b).2 k e).1⟩), (h4 i a b).2⟩, h5⟩
theorem ObS.nil (lo hi : Nat) (w : World) : ObS lo hi w (.slice none 0 0) [] := ⟨[], Ow.nil _ _, rfl, (fun k e => (by cases e)), (fun i a => (by simp at a)), fun i j a => (by simp at a)⟩
/-- a row is put to a table, in place -/
theorem ObS.push {hi : Nat} (h : ObS lo hi w v xss) (hw : hi ≤ w.heap.size) {A : Option Addr} {n c : Nat} {row : List Int} (hu : Ow cI 2 lo w (.slice A n c) row) (hk : ∀ k, (Value.slice A n c).ownBlock = some k → hi ≤ k) :
    ∃ hs : List Hd, Ow cH 27 lo w v hs ∧ hs.length = xss.length ∧ (∀ k, v.ownBlock = some k → lo ≤ k ∧ k < hi) ∧ ∀ w' v', Ow cH 27 lo w' v' (hs ++ [⟨A, n, c⟩]) → w.grownBy w' v.ownBlock → (v'.ownBlock = v.ownBlock ∨ ∃ j, w.heap.size ≤ j ∧ v'.ownBlock = some j) →
      ObS lo w'.heap.size w' v' (xss ++ [row]) := by
  obtain ⟨hs, h1, h2, h3, h4, h5⟩ := h
  refine ⟨hs, h1, h2, fun k e => ⟨(h1.block k e).1, h3 k e⟩, fun w' v' ho hg hat => ?_⟩
  have hz := hg.size
  have key : ∀ (u : Value) (ys : List Int), Ow cI 2 lo w u ys → (∀ k, u.ownBlock = some k → v.ownBlock ≠ some k) →
      Ow cI 2 lo w' u ys ∧ ∀ k, u.ownBlock = some k → k < w'.heap.size ∧ v'.ownBlock ≠ some k := by
    intro u ys hu hk
    refine ⟨hu.kept hg ?_, fun k e => ⟨Nat.lt_of_lt_of_le (hu.block k e).2 hz, fun e3 => ?_⟩⟩
    · cases hq : u.ownBlock with
      | none => exact .inl rfl
      | some k => exact .inr fun e => hk k hq e.symm
    · rcases hat with e2 | ⟨j, hj, e2⟩
      · exact hk k e (e2 ▸ e3)
      · rw [e2] at e3; injection e3 with e3; have := (hu.block k e).2; omega
  have hnew : ∀ k, (Value.slice A n c).ownBlock = some k → v.ownBlock ≠ some k := fun k e e2 => by have := hk k e; have := h3 k e2; omega
  have e3 : (hs ++ [(⟨A, n, c⟩ : Hd)])[hs.length]'(by simp) = ⟨A, n, c⟩ := by simp
  refine ⟨_, ho, by simp [h2], fun k e => (ho.block k e).2, fun i a b => ?_, fun i j a b hij k e => ?_⟩
  · by_cases hi : i < hs.length
    · rw [List.getElem_append_left hi, List.getElem_append_left (by omega)]
      exact key _ _ (h4 i hi (by omega)).1 fun k e => ((h4 i hi (by omega)).2 k e).2
    · have e : i = hs.length := by simp at a; omega
      subst e
      have e2 : (xss ++ [row])[hs.length] = row := by
        rw [List.getElem_append_right (by omega)]; simp [h2]
      rw [e2, e3]
      exact key (.slice A n c) _ hu hnew
  · simp only [List.length_append, List.length_singleton] at a b
    by_cases hi' : i < hs.length
    · rw [List.getElem_append_left hi'] at e
      by_cases hj : j < hs.length
      · rw [List.getElem_append_left hj]
        exact h5 i j hi' hj hij k e
      · have ej : j = hs.length := by omega
        subst ej
        rw [e3]
        intro e9
        have := hk k e9
        have := ((h4 i hi' (by omega)).2 k e).1
        omega
    · have ei : i = hs.length := by omega
      subst ei
      rw [e3] at e
      have hj : j < hs.length := by omega
      rw [List.getElem_append_left hj]
      intro e9
      have := hk k e
      have := ((h4 j hj (by omega)).2 k e9).1
      omega
/-- a row is put to a table, its row of headers in a new block -/
theorem ObS.more {hi : Nat} {v' : Value} {hs : List Hd} {A : Option Addr} {n c : Nat} {row : List Int}
    (h2 : hs.length = xss.length) (h4 : ∀ i (a : i < hs.length) (b : i < xss.length), Ow cI 2 lo w hs[i].val xss[i] ∧ ∀ k, hs[i].val.ownBlock = some k → k < hi)
    (h5 : ∀ i j (a : i < hs.length) (b : j < hs.length), i ≠ j → ∀ k, hs[i].val.ownBlock = some k → hs[j].val.ownBlock ≠ some k)
    (hu : Ow cI 2 lo w (.slice A n c) row) (hk : ∀ k, (Value.slice A n c).ownBlock = some k → hi ≤ k)
    (ho : Ow cH 27 lo w' v' (hs ++ [⟨A, n, c⟩])) (hb : Below w.heap.size w w') (hv : ∀ k, v'.ownBlock = some k → w.heap.size ≤ k) : ObS lo w'.heap.size w' v' (xss ++ [row]) := by
  have hz := hb.size
  have key : ∀ (u : Value) (ys : List Int), Ow cI 2 lo w u ys → Ow cI 2 lo w' u ys ∧ ∀ k, u.ownBlock = some k → k < w'.heap.size ∧ v'.ownBlock ≠ some k := by
    intro u ys hu
    exact ⟨hu.below hb, fun k e => ⟨Nat.lt_of_lt_of_le (hu.block k e).2 hz, fun e3 => by have := hv k e3; have := (hu.block k e).2; omega⟩⟩
  have e3 : (hs ++ [(⟨A, n, c⟩ : Hd)])[hs.length]'(by simp) = ⟨A, n, c⟩ := by simp
  refine ⟨_, ho, by simp [h2], fun k e => (ho.block k e).2, fun i a b => ?_, fun i j a b hij k e => ?_⟩
  · by_cases hi : i < hs.length
    · rw [List.getElem_append_left hi, List.getElem_append_left (by omega)]
      exact key _ _ (h4 i hi (by omega)).1
    · have e : i = hs.length := by simp at a; omega
      subst e
      have e2 : (xss ++ [row])[hs.length] = row := by
        rw [List.getElem_append_right (by omega)]; simp [h2]
      rw [e2, e3]
      exact key (.slice A n c) _ hu
  · simp only [List.length_append, List.length_singleton] at a b
    by_cases hi' : i < hs.length
    · rw [List.getElem_append_left hi'] at e
      by_cases hj : j < hs.length
      · rw [List.getElem_append_left hj]
        exact h5 i j hi' hj hij k e
      · have ej : j = hs.length := by omega
        subst ej
        rw [e3]
        intro e9
        have := hk k e9
        have := (h4 i hi' (by omega)).2 k e
        omega
    · have ei : i = hs.length := by omega
      subst ei
      rw [e3] at e
      have hj : j < hs.length := by omega
      rw [List.getElem_append_left hj]
      intro e9
      have := hk k e
      have := (h4 j hj (by omega)).2 k e9
      omega
end
end Go.Proofs.YtgkogfjifcfkoaaGreat

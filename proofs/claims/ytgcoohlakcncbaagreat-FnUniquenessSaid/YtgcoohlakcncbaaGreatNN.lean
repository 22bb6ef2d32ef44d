/- The laws' own functions on lists of lists of nodes in the one form, and such an argument opened. -/
import Derived.Test.YtgcoohlakcncbaaGreatOA
import Derived.Test.YtgcoohlakcncbaaGreatB2
import Derived.StillTailTactics
namespace Go.Proofs.YtgcoohlakcncbaaGreat
open Go.RowKit
set_option linter.unusedVariables false
set_option linter.unusedSimpArgs false
/-- the lengths of lists, summed -/
def sumL : List (List Nd) → Nat
  | [] => 0
  | x :: xs => x.length + sumL xs
theorem sumL_snoc (xs : List (List Nd)) (x : List Nd) : sumL (xs ++ [x]) = sumL xs + x.length := by
  induction xs with
  | nil => simp [sumL]
  | cons y ys ih => simp only [List.cons_append, sumL, ih]; omega
theorem sumL_succ (xs : List (List Nd)) (k : Nat) (h : k < xs.length) : sumL (xs.take (k + 1)) = sumL (xs.take k) + (xs[k]'h).length := by
  rw [List.take_succ_eq_append_getElem h, sumL_snoc]
theorem sumL_take (xs : List (List Nd)) (k : Nat) : sumL (xs.take k) ≤ sumL xs := by
  induction xs generalizing k with
  | nil => simp
  | cons y ys ih =>
    cases k with
    | zero => simp [sumL]
    | succ k => simp only [List.take_succ_cons, sumL]; have := ih k; omega
theorem sumL_get (xs : List (List Nd)) (k : Nat) (h : k < xs.length) : (xs[k]'h).length ≤ sumL xs := by
  have h1 := sumL_succ xs k h
  have h2 := sumL_take xs (k + 1)
  omega
/-- what a list of lists counts -/
def tot (xs : List (List Nd)) : Nat := xs.length + sumL xs
theorem sumL_tot (xs : List (List Nd)) : sumL xs ≤ tot xs := by unfold tot; omega
theorem Sl.drewN' {α : Type} {K : Cod α} {w : World} {v : Value} {xs : List α} (h : Sl K w v xs) (q : Nat) : Sl K (w.drewN q) v xs := h
theorem Sl2.atM {w : World} {A : Option Addr} {n c : Nat} {xss : List (List Nd)} (h : Sl2 cN w (.slice A n c) xss) {k : Nat} (hk : k < xss.length) :
    ∃ b o Ai ci, A = some ⟨b, o, none⟩ ∧ b < w.heap.size ∧ w.cell? ⟨b, o + k, none⟩ = some (.slice Ai (xss[k]'hk).length ci) ∧ Sl cN w (.slice Ai (xss[k]'hk).length ci) (xss[k]'hk) := by
  obtain ⟨b, o, Ai, ni, ci, hA, hb, hc, hs⟩ := h.at_ hk
  obtain ⟨A', c', hv⟩ := hs.opn
  injection hv with _ hn _
  subst hn
  exact ⟨b, o, Ai, ci, hA, hb, hc, hs⟩
theorem ty_nodess : Ty Tryz.prog 46 26 (.slice none 0 0) 1 24 := Ty.mk' Tryz.underlying46 (by kernel_rfl) rfl (by decide)
/-- lists of nodes of the call's own, made one behind the other: their headers from B on, each list below H -/
def Ob2 (B H : Nat) (w : World) (v : Value) (xss : List (List Nd)) : Prop :=
  ∃ (hs : List Hd) (b : Nat → Nat), Ob cH 26 B (b 0) w v hs ∧ hs.length = xss.length ∧ B ≤ b 0 ∧ (∀ i, b i ≤ b (i + 1)) ∧ (∀ i, b i ≤ H) ∧
    ∀ i (p : i < hs.length) (q : i < xss.length), Ob cN 82 (b i) (b (i + 1)) w hs[i].val xss[i]
section
variable {B H : Nat} {w w' : World} {v : Value} {xss : List (List Nd)}
theorem Ob2.sl (h : Ob2 B H w v xss) : Sl2 cN w v xss := by
  obtain ⟨hs, b, h1, h2, -, -, -, h3⟩ := h
  exact ⟨hs, h1.sl, h2, fun i p q => (h3 i p q).sl⟩
theorem Ob2.opn (h : Ob2 B H w v xss) : ∃ A c, v = .slice A xss.length c := h.sl.opn
theorem mono_of {b : Nat → Nat} (h : ∀ i, b i ≤ b (i + 1)) {i j : Nat} (hij : i ≤ j) : b i ≤ b j := by
  induction hij with
  | refl => exact Nat.le_refl _
  | step _ ih => exact Nat.le_trans ih (h _)
theorem Ob2.below (h : Ob2 B H w v xss) (hb : Below w.heap.size w w') : Ob2 B H w' v xss := by
  obtain ⟨hs, b, h1, h2, h3, h4, h5, h6⟩ := h
  exact ⟨hs, b, h1.below hb, h2, h3, h4, h5, fun i p q => (h6 i p q).below hb⟩
theorem Ob2.keep {B' H' : Nat} (h : Ob2 B H w v xss) (k : Keep B' H' w w') (hd : H ≤ B' ∨ H' ≤ B) : Ob2 B H w' v xss := by
  obtain ⟨hs, b, h1, h2, h3, h4, h5, h6⟩ := h
  have e0 := h5 0
  refine ⟨hs, b, h1.keep k (by omega), h2, h3, h4, h5, fun i p q => (h6 i p q).keep k ?_⟩
  have e1 := h5 (i + 1)
  have e2 := mono_of h4 (Nat.zero_le i)
  omega
end
theorem hset (hs : List Hd) (n k : Nat) (z x : Hd) (hk : k < n) (hl : hs.length = k) : (hs ++ List.replicate (n - k) z).set k x = (hs ++ [x]) ++ List.replicate (n - (k + 1)) z := by
  rw [List.set_append, if_neg (by omega), hl, Nat.sub_self]
  obtain ⟨m, hm⟩ : ∃ m, n - k = m + 1 := ⟨n - k - 1, by omega⟩
  rw [hm, List.replicate_succ, List.set_cons_zero, show n - (k + 1) = m by omega, List.append_assoc]
  rfl
/-- k lists have been copied -/
structure TN (g : Nat) (xss : List (List Nd)) (k : Nat) (w X : World) (hs : List Hd) (b : Nat → Nat) : Prop where
  len : hs.length = k
  row : Ow cH 26 g X (.slice (some ⟨g, 0, none⟩) xss.length xss.length) (hs ++ List.replicate (xss.length - k) ⟨none, 0, 0⟩)
  b0 : g + 1 ≤ b 0
  mono : ∀ i, b i ≤ b (i + 1)
  top : ∀ i, b i ≤ X.heap.size
  ob : ∀ i (p : i < hs.length) (q : i < xss.length), Ob cN 82 (b i) (b (i + 1)) X hs[i].val xss[i]
  be : Below g w X
theorem TN.step {g k : Nat} {xss : List (List Nd)} {w X Y : World} {hs : List Hd} {b : Nat → Nat} (h : TN g xss k w X hs b) (hk : k < xss.length) {A : Option Addr} {c : Nat} (ho : Ob cN 82 X.heap.size Y.heap.size Y (.slice A (xss[k]'hk).length c) (xss[k]'hk)) (hb : Below X.heap.size X Y) (hg : g ≤ X.heap.size) :
    ∃ hs' b', TN g xss (k + 1) w (Y.setCell ⟨g, k, none⟩ (.slice A (xss[k]'hk).length c)) hs' b' := by
  have hrow := h.row.below hb
  have hset1 := hrow.set1 (j := k) (x := (⟨A, (xss[k]'hk).length, c⟩ : Hd)) (u := .slice A (xss[k]'hk).length c) rfl rfl (by simp [h.len]; omega)
  rw [hset hs xss.length k _ _ hk h.len] at hset1
  have hfar : ∀ {B' H' : Nat} {v : Value} {xs : List Nd}, g + 1 ≤ B' → Ob cN 82 B' H' Y v xs → Ob cN 82 B' H' (Y.setCell ⟨g, k, none⟩ (.slice A (xss[k]'hk).length c)) v xs := fun {B' H' v xs} hB' hv =>
    ⟨hv.1.far (fun e => by have h9 : B' ≤ g := (hv.1.block _ e).1; omega) _, hv.2⟩
  refine ⟨hs ++ [⟨A, (xss[k]'hk).length, c⟩], fun i => if i ≤ k then b i else Y.heap.size, by simp [h.len], hset1, by simpa using h.b0, fun i => ?_, fun i => ?_, fun i p q => ?_, (h.be.trans (hb.mono hg)).setCell (Nat.le_refl _) _⟩
  · have h1 := h.top i
    have h2 := hb.size
    by_cases hi : i + 1 ≤ k
    · rw [if_pos (show i ≤ k by omega), if_pos hi]; exact h.mono i
    · rw [if_neg hi]
      split
      · omega
      · exact Nat.le_refl _
  · have h1 := h.top i
    have h2 := hb.size
    have h3 : (Y.setCell ⟨g, k, none⟩ (.slice A (xss[k]'hk).length c)).heap.size = Y.heap.size := by simp [World.setCell]
    rw [h3]
    show (if i ≤ k then b i else Y.heap.size) ≤ Y.heap.size
    split <;> omega
  · have hb0 := h.b0
    by_cases hi : i < hs.length
    · have := h.len
      rw [List.getElem_append_left hi]
      show Ob _ _ (if i ≤ k then b i else Y.heap.size) (if i + 1 ≤ k then b (i + 1) else Y.heap.size) _ _ _
      rw [if_pos (show i ≤ k by omega), if_pos (show i + 1 ≤ k by omega)]
      have hm := mono_of h.mono (Nat.zero_le i)
      exact hfar (by omega) ((h.ob i hi q).below hb)
    · have hl := h.len
      have e : i = hs.length := by simp at p; omega
      have e' : i = k := by omega
      subst e'
      have e2 : (hs ++ [(⟨A, (xss[i]'hk).length, c⟩ : Hd)])[i] = ⟨A, (xss[i]'hk).length, c⟩ := by simp [e]
      rw [e2]
      show Ob _ _ (if i ≤ i then b i else Y.heap.size) (if i + 1 ≤ i then b (i + 1) else Y.heap.size) _ _ _
      rw [if_pos (Nat.le_refl _), if_neg (show ¬ i + 1 ≤ i by omega)]
      have hm := mono_of h.mono (Nat.zero_le i)
      exact hfar (by omega) ⟨ho.1.mono (h.top i), ho.2⟩
theorem TN.fin {g : Nat} {xss : List (List Nd)} {w X : World} {hs : List Hd} {b : Nat → Nat} (h : TN g xss xss.length w X hs b) : Ob2 g X.heap.size X (.slice (some ⟨g, 0, none⟩) xss.length xss.length) xss := by
  have hr := h.row
  rw [Nat.sub_self, List.replicate_zero, List.append_nil] at hr
  refine ⟨hs, b, ⟨hr, fun k hk => ?_⟩, h.len, by have := h.b0; omega, h.mono, h.top, h.ob⟩
  have hk' : g = k := by injection hk
  have := h.b0
  omega
open Go.RowKit Go.ChangeShapes Go.WideShapes Go.Deep in
/-- a slice of slices of pairs of int64s that came in -/
theorem open_SSN {H : Type} {enc : TypeId × Value → H} {P : Program} {w : World} {base : Nat} {spare : Nat → Bool} {held : Bool} {t e e2 : TypeId} {f0 f1 : Field} (ht : P.underlying t = some (.slice e)) (hc : P.cellsOf e = 1) (he : P.underlying e = some (.slice e2)) (he2 : P.underlying e2 = some (.struct #[f0, f1])) (hone : oneCellFields P #[f0, f1] = true) (hC : P.cellsOf e2 = 2)
    (h0 : P.underlying f0.type = some (.int .i64)) (h1 : P.underlying f1.type = some (.int .i64)) {fuel : Nat} {v : Value} {x : DataW H × List MemPlace}
    (h : DataW.trod enc P w base spare held fuel t [v] = some x) : ∃ xss : List (List Nd), Sl2 cN w v xss := by
  rcases open_slice1 ht hc h with ⟨hcs, _⟩ | ⟨a, len, cap, m, n, V, D, Pl, hcs, -, hl, hm, hmm, -, hi⟩
  · injection hcs with hv _
    subst hv
    exact ⟨[], [], Sl.nil, rfl, fun i a => by simp at a⟩
  · injection hcs with hv _
    subst hv
    have hml : len ≤ m := by rw [hmm]; split <;> omega
    have hex : ∀ i, i < len → ∃ (q : Hd) (xs : List Nd), w.cell? (a.add i) = some q.val ∧ Sl cN w q.val xs := by
      intro i hil
      obtain ⟨g1, g2⟩ := hi i (by omega)
      obtain ⟨xs, hs⟩ := open_SN he he2 hone hC h0 h1 g2
      obtain ⟨A, c, hv⟩ := hs.opn
      rw [hv] at g1 hs
      exact ⟨⟨A, xs.length, c⟩, xs, g1, hs⟩
    obtain ⟨hs, xss, e1, e2, h3⟩ : ∃ (hs : List Hd) (xss : List (List Nd)), hs.length = len ∧ xss.length = len ∧ ∀ i (p : i < hs.length) (q : i < xss.length), w.cell? (a.add i) = some hs[i].val ∧ Sl cN w hs[i].val xss[i] := by
      clear hi hml hm hl hmm h
      induction len with
      | zero => exact ⟨[], [], rfl, rfl, fun i p => by simp at p⟩
      | succ l ih =>
        obtain ⟨hs, xss, e1, e2, h3⟩ := ih fun i hi => hex i (by omega)
        obtain ⟨q, xs, g1, g2⟩ := hex l (by omega)
        refine ⟨hs ++ [q], xss ++ [xs], by simp [e1], by simp [e2], fun i p r => ?_⟩
        by_cases hil : i < hs.length
        · rw [List.getElem_append_left hil, List.getElem_append_left (by omega)]
          exact h3 i hil (by omega)
        · have : i = l := by simp at p; omega
          subst this
          have a1 : (hs ++ [q])[i] = q := by simp [e1]
          have a2 : (xss ++ [xs])[i] = xs := by simp [e2]
          rw [a1, a2]
          exact ⟨g1, g2⟩
    refine ⟨xss, hs, sl_of_cells (K := cH) e1.symm hl hm fun k u hu => ?_, by omega, fun i p q => (h3 i p q).2⟩
    have hkl : k < hs.length := by
      have := (List.getElem?_eq_some_iff.1 hu).1
      rw [flat_length] at this
      simpa [cH] using this
    have h2 := flat_get (K := cH) hs k hkl 0 (by decide)
    rw [show k * cH.size + 0 = k by simp [cH], hu] at h2
    rw [(h3 k hkl (by omega)).1, h2]
    rfl
end Go.Proofs.YtgcoohlakcncbaaGreat

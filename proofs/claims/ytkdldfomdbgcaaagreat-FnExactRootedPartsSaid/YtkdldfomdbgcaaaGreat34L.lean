/- Lists of frames and lists of posets: how they lie, and the laws' own functions on lists of posets. Written by gen34L.py. -/
import Derived.Test.YtkdldfomdbgcaaaGreatLP
import Derived.Test.YtkdldfomdbgcaaaGreatB4
import Derived.Test.YtkdldfomdbgcaaaGreatSch
namespace Go.Proofs.YtkdldfomdbgcaaaGreat
open Go.RowKit
set_option linter.unusedVariables false
set_option linter.unusedSimpArgs false
/- Lists of frames: how they lie, and the laws' own functions on them. -/
/-- a frame: a number and a slice's header -/
def cF : Cod (Int × Hd) := ⟨2, fun x => [.int .i64 x.1, x.2.val], fun _ => rfl, by decide, fun _ u hu => by simp at hu; rcases hu with rfl | rfl <;> rfl⟩
theorem ty_frame : Ty Tryz.prog 66 68 (.agg #[.int .i64 0, .slice none 0 0]) 2 32 := Ty.mk' Tryz.underlying66 (by kernel_rfl) rfl (by decide)
/-- frames of the call's own: all lists apart, below H -/
def ObF (B H : Nat) (w : World) (v : Value) (fs : List (Int × List Int)) : Prop :=
  ∃ hs : List (Int × Hd), Ob cF 68 B H w v hs ∧ hs.length = fs.length ∧ ∀ i (p : i < hs.length) (q : i < fs.length), hs[i].1 = fs[i].1 ∧ Ob cI 2 B H w hs[i].2.val fs[i].2 ∧
    ∀ k, hs[i].2.val.ownBlock = some k → v.ownBlock ≠ some k ∧ ∀ j (r : j < hs.length), j ≠ i → hs[j].2.val.ownBlock ≠ some k
/-- frames that are read -/
def SlF (w : World) (v : Value) (fs : List (Int × List Int)) : Prop :=
  ∃ hs : List (Int × Hd), Sl cF w v hs ∧ hs.length = fs.length ∧ ∀ i (p : i < hs.length) (q : i < fs.length), hs[i].1 = fs[i].1 ∧ Sl cI w hs[i].2.val fs[i].2
theorem ObF.sl {B H : Nat} {w : World} {v : Value} {fs : List (Int × List Int)} (h : ObF B H w v fs) : SlF w v fs := by
  obtain ⟨hs, h1, h2, h3⟩ := h
  exact ⟨hs, h1.sl, h2, fun i p q => ⟨(h3 i p q).1, (h3 i p q).2.1.sl⟩⟩
theorem SlF.opn {w : World} {v : Value} {fs : List (Int × List Int)} (h : SlF w v fs) : ∃ A c, v = .slice A fs.length c := by
  obtain ⟨hs, h1, h2, -⟩ := h
  rw [← h2]; exact h1.opn
theorem ObF.opn {B H : Nat} {w : World} {v : Value} {fs : List (Int × List Int)} (h : ObF B H w v fs) : ∃ A c, v = .slice A fs.length c := h.sl.opn
theorem SlF.below {w w' : World} {v : Value} {fs : List (Int × List Int)} (h : SlF w v fs) (hb : Below w.heap.size w w') : SlF w' v fs := by
  obtain ⟨hs, h1, h2, h3⟩ := h
  exact ⟨hs, h1.below hb, h2, fun i p q => ⟨(h3 i p q).1, (h3 i p q).2.below hb⟩⟩
theorem ObF.below {B H : Nat} {w w' : World} {v : Value} {fs : List (Int × List Int)} (h : ObF B H w v fs) (hb : Below w.heap.size w w') : ObF B H w' v fs := by
  obtain ⟨hs, h1, h2, h3⟩ := h
  exact ⟨hs, h1.below hb, h2, fun i p q => ⟨(h3 i p q).1, (h3 i p q).2.1.below hb, (h3 i p q).2.2⟩⟩
theorem ObF.keep {B H B' H' : Nat} {w w' : World} {v : Value} {fs : List (Int × List Int)} (h : ObF B H w v fs) (k : Keep B' H' w w') (hd : H ≤ B' ∨ H' ≤ B) : ObF B H w' v fs := by
  obtain ⟨hs, h1, h2, h3⟩ := h
  exact ⟨hs, h1.keep k hd, h2, fun i p q => ⟨(h3 i p q).1, (h3 i p q).2.1.keep k hd, (h3 i p q).2.2⟩⟩
theorem ObF.nil (B H : Nat) (w : World) : ObF B H w (.slice none 0 0) [] := ⟨[], ⟨Ow.nil _ _, fun k hk => by cases hk⟩, rfl, fun i p => by simp at p⟩
theorem ObF.mono {B B' H : Nat} {w : World} {v : Value} {fs : List (Int × List Int)} (h : ObF B H w v fs) (hB : B' ≤ B) : ObF B' H w v fs := by
  obtain ⟨hs, h1, h2, h3⟩ := h
  exact ⟨hs, ⟨h1.1.mono hB, h1.2⟩, h2, fun i p q => ⟨(h3 i p q).1, ⟨(h3 i p q).2.1.1.mono hB, (h3 i p q).2.1.2⟩, (h3 i p q).2.2⟩⟩
theorem ObF.top {B H H' : Nat} {w : World} {v : Value} {fs : List (Int × List Int)} (h : ObF B H w v fs) (hH : H ≤ H') : ObF B H' w v fs := by
  obtain ⟨hs, h1, h2, h3⟩ := h
  exact ⟨hs, ⟨h1.1, fun k hk => Nat.lt_of_lt_of_le (h1.2 k hk) hH⟩, h2, fun i p q => ⟨(h3 i p q).1, ⟨(h3 i p q).2.1.1, fun k hk => Nat.lt_of_lt_of_le ((h3 i p q).2.1.2 k hk) hH⟩, (h3 i p q).2.2⟩⟩
/-- one frame more, whose list is younger than all of them -/
theorem ObF.push {B : Nat} {w0 w : World} {v : Value} {fs : List (Int × List Int)} (h : ObF B w0.heap.size w0 v fs) (hb : Below w0.heap.size w0 w) {A : Option Addr} {n c : Nat} {xs : List Int} (hu : Ow cI 2 w0.heap.size w (.slice A n c) xs) (hB : B ≤ w0.heap.size) (x : Int) :
    ∃ hs : List (Int × Hd), Ow cF 68 B w v hs ∧ hs.length = fs.length ∧ ∀ w' v' W, w.grownBy W none → W.heap.size = w.heap.size + 1 → Ow cF 68 B w' v' (hs ++ [(x, ⟨A, n, c⟩)]) → W.grownBy w' v.ownBlock →
      (v'.ownBlock = v.ownBlock ∨ v'.ownBlock = some (w.heap.size + 1)) → ObF B w'.heap.size w' v' (fs ++ [(x, xs)]) := by
  obtain ⟨hs, h1, h2, h3⟩ := h
  have hsz0 := hb.size
  refine ⟨hs, h1.1.below hb, h2, fun w' v' W hw hWz ho hg hat => ?_⟩
  have hsz : w.heap.size < w'.heap.size := by have := hg.size; omega
  have hv : ∀ k, v.ownBlock = some k → k < w0.heap.size := fun k hk => h1.2 k hk
  have key : ∀ (u : Value) (ys : List Int), Ow cI 2 B w u ys → (∀ k, u.ownBlock = some k → k < w.heap.size ∧ v.ownBlock ≠ some k) →
      Ob cI 2 B w'.heap.size w' u ys ∧ ∀ k, u.ownBlock = some k → v'.ownBlock ≠ some k := by
    intro u ys hu hk
    refine ⟨⟨(hu.kept hw ?_).kept hg ?_, fun k e => by have := (hk k e).1; omega⟩, fun k e e3 => ?_⟩
    · cases hq : u.ownBlock with
      | none => exact .inl rfl
      | some k => exact .inr (by simp)
    · cases hq : u.ownBlock with
      | none => exact .inl rfl
      | some k => exact .inr fun e => (hk k hq).2 e.symm
    · rcases hat with e2 | e2
      · exact (hk k e).2 (e2 ▸ e3)
      · rw [e2] at e3; injection e3 with e3; have := (hk k e).1; omega
  have hnew : ∀ k, (Value.slice A n c).ownBlock = some k → w0.heap.size ≤ k ∧ k < w.heap.size := fun k hk => hu.block k hk
  have hold : ∀ i (p : i < hs.length), ∀ k, hs[i].2.val.ownBlock = some k → k < w0.heap.size := fun i p k hk => (h3 i p (by omega)).2.1.2 k hk
  have e3 : ∀ (p : hs.length < (hs ++ [(x, (⟨A, n, c⟩ : Hd))]).length), (hs ++ [(x, (⟨A, n, c⟩ : Hd))])[hs.length] = (x, ⟨A, n, c⟩) := fun p => by simp
  refine ⟨_, ⟨ho, fun k hk => (ho.block k hk).2⟩, by simp [h2], fun i p q => ?_⟩
  by_cases hi : i < hs.length
  · have e1 : (hs ++ [(x, (⟨A, n, c⟩ : Hd))])[i] = hs[i] := List.getElem_append_left hi
    have e2 : (fs ++ [(x, xs)])[i] = fs[i]'(by omega) := List.getElem_append_left (by omega)
    obtain ⟨a1, a2, a3⟩ := h3 i hi (by omega)
    have kk := key _ _ (a2.1.below hb) (fun k hk => ⟨by have := hold i hi k hk; omega, (a3 k hk).1⟩)
    rw [e1, e2]
    refine ⟨a1, kk.1, fun k hk => ⟨kk.2 k hk, fun j r hj => ?_⟩⟩
    by_cases hjl : j < hs.length
    · rw [List.getElem_append_left hjl]
      exact (a3 k hk).2 j hjl hj
    · have : j = hs.length := by simp at r; omega
      subst this
      rw [e3]
      intro e
      have q1 := (hnew k e).1
      have q2 := hold i hi k hk
      omega
  · have hi' : i = hs.length := by simp at p; omega
    subst hi'
    have e2 : (fs ++ [(x, xs)])[hs.length] = (x, xs) := by
      rw [List.getElem_append_right (by omega)]; simp [h2]
    rw [e3, e2]
    have kk := key (.slice A n c) xs (hu.mono hB) (fun k hk => ⟨(hnew k hk).2, fun e => by have := hv k e; have := (hnew k hk).1; omega⟩)
    refine ⟨rfl, kk.1, fun k hk => ⟨kk.2 k hk, fun j r hj => ?_⟩⟩
    have hjl : j < hs.length := by simp at r; omega
    rw [List.getElem_append_left hjl]
    intro e
    have q1 := (hnew k hk).1
    have q2 := hold j hjl k e
    omega
theorem SlF.at_ {w : World} {A : Option Addr} {n c : Nat} {fs : List (Int × List Int)} (h : SlF w (.slice A n c) fs) {k : Nat} (hk : k < fs.length) :
    ∃ b o Ai ci, A = some ⟨b, o, none⟩ ∧ b < w.heap.size ∧ w.cell? ⟨b, o + k * 2, none⟩ = some (.int .i64 fs[k].1) ∧ w.cell? ⟨b, o + k * 2 + 1, none⟩ = some (.slice Ai fs[k].2.length ci) ∧ Sl cI w (.slice Ai fs[k].2.length ci) fs[k].2 := by
  obtain ⟨hs, h1, h2, h3⟩ := h
  have hk' : k < hs.length := by omega
  obtain ⟨b, o, e1, hb, hc⟩ := h1.cell hk'
  obtain ⟨a1, a2⟩ := h3 k hk' hk
  have c0 := hc 0 (.int .i64 hs[k].1) rfl
  have c1 := hc 1 hs[k].2.val rfl
  obtain ⟨Ai, ci, e2⟩ := a2.opn
  rw [e2] at a2 c1
  rw [a1] at c0
  exact ⟨b, o, Ai, ci, e1, hb, c0, c1, a2⟩
/-- what frames count -/
def szF : List (Int × List Int) → Nat
  | [] => 0
  | x :: l => 1 + x.2.length + szF l
theorem szF_app (a b : List (Int × List Int)) : szF (a ++ b) = szF a + szF b := by
  induction a with
  | nil => simp [szF]
  | cons x l ih => simp only [List.cons_append, szF, ih]; omega
theorem szF_len (a : List (Int × List Int)) : a.length ≤ szF a := by
  induction a with
  | nil => simp
  | cons x l ih => simp only [List.length_cons, szF]; omega
theorem szF_succ (fs : List (Int × List Int)) (j : Nat) (h : j < fs.length) : szF (fs.take (j + 1)) = szF (fs.take j) + (1 + fs[j].2.length) := by
  rw [List.take_succ_eq_append_getElem h, szF_app]; rfl
theorem szF_take (fs : List (Int × List Int)) (j : Nat) : szF (fs.take j) ≤ szF fs := by
  conv => rhs; rw [← List.take_append_drop j fs, szF_app]
  omega
theorem szF_get (fs : List (Int × List Int)) (j : Nat) (h : j < fs.length) : fs[j].2.length ≤ szF fs := by
  have h1 := szF_succ fs j h
  have h2 := szF_take fs (j + 1)
  omega
theorem ty_poset : Ty Tryz.prog 26 29 (.agg #[.int .i64 0, .slice none 0 0]) 2 32 := Ty.mk' Tryz.underlying26 (by kernel_rfl) rfl (by decide)
/-- frames of the call's own: all lists apart, below H -/
def ObP (B H : Nat) (w : World) (v : Value) (fs : List (Int × List Int)) : Prop :=
  ∃ hs : List (Int × Hd), Ob cF 29 B H w v hs ∧ hs.length = fs.length ∧ ∀ i (p : i < hs.length) (q : i < fs.length), hs[i].1 = fs[i].1 ∧ Ob cI 2 B H w hs[i].2.val fs[i].2 ∧
    ∀ k, hs[i].2.val.ownBlock = some k → v.ownBlock ≠ some k ∧ ∀ j (r : j < hs.length), j ≠ i → hs[j].2.val.ownBlock ≠ some k
/-- frames that are read -/
def SlP (w : World) (v : Value) (fs : List (Int × List Int)) : Prop :=
  ∃ hs : List (Int × Hd), Sl cF w v hs ∧ hs.length = fs.length ∧ ∀ i (p : i < hs.length) (q : i < fs.length), hs[i].1 = fs[i].1 ∧ Sl cI w hs[i].2.val fs[i].2
theorem ObP.sl {B H : Nat} {w : World} {v : Value} {fs : List (Int × List Int)} (h : ObP B H w v fs) : SlP w v fs := by
  obtain ⟨hs, h1, h2, h3⟩ := h
  exact ⟨hs, h1.sl, h2, fun i p q => ⟨(h3 i p q).1, (h3 i p q).2.1.sl⟩⟩
theorem SlP.opn {w : World} {v : Value} {fs : List (Int × List Int)} (h : SlP w v fs) : ∃ A c, v = .slice A fs.length c := by
  obtain ⟨hs, h1, h2, -⟩ := h
  rw [← h2]; exact h1.opn
theorem ObP.opn {B H : Nat} {w : World} {v : Value} {fs : List (Int × List Int)} (h : ObP B H w v fs) : ∃ A c, v = .slice A fs.length c := h.sl.opn
theorem SlP.below {w w' : World} {v : Value} {fs : List (Int × List Int)} (h : SlP w v fs) (hb : Below w.heap.size w w') : SlP w' v fs := by
  obtain ⟨hs, h1, h2, h3⟩ := h
  exact ⟨hs, h1.below hb, h2, fun i p q => ⟨(h3 i p q).1, (h3 i p q).2.below hb⟩⟩
theorem ObP.below {B H : Nat} {w w' : World} {v : Value} {fs : List (Int × List Int)} (h : ObP B H w v fs) (hb : Below w.heap.size w w') : ObP B H w' v fs := by
  obtain ⟨hs, h1, h2, h3⟩ := h
  exact ⟨hs, h1.below hb, h2, fun i p q => ⟨(h3 i p q).1, (h3 i p q).2.1.below hb, (h3 i p q).2.2⟩⟩
theorem ObP.keep {B H B' H' : Nat} {w w' : World} {v : Value} {fs : List (Int × List Int)} (h : ObP B H w v fs) (k : Keep B' H' w w') (hd : H ≤ B' ∨ H' ≤ B) : ObP B H w' v fs := by
  obtain ⟨hs, h1, h2, h3⟩ := h
  exact ⟨hs, h1.keep k hd, h2, fun i p q => ⟨(h3 i p q).1, (h3 i p q).2.1.keep k hd, (h3 i p q).2.2⟩⟩
theorem ObP.nil (B H : Nat) (w : World) : ObP B H w (.slice none 0 0) [] := ⟨[], ⟨Ow.nil _ _, fun k hk => by cases hk⟩, rfl, fun i p => by simp at p⟩
theorem ObP.mono {B B' H : Nat} {w : World} {v : Value} {fs : List (Int × List Int)} (h : ObP B H w v fs) (hB : B' ≤ B) : ObP B' H w v fs := by
  obtain ⟨hs, h1, h2, h3⟩ := h
  exact ⟨hs, ⟨h1.1.mono hB, h1.2⟩, h2, fun i p q => ⟨(h3 i p q).1, ⟨(h3 i p q).2.1.1.mono hB, (h3 i p q).2.1.2⟩, (h3 i p q).2.2⟩⟩
theorem ObP.top {B H H' : Nat} {w : World} {v : Value} {fs : List (Int × List Int)} (h : ObP B H w v fs) (hH : H ≤ H') : ObP B H' w v fs := by
  obtain ⟨hs, h1, h2, h3⟩ := h
  exact ⟨hs, ⟨h1.1, fun k hk => Nat.lt_of_lt_of_le (h1.2 k hk) hH⟩, h2, fun i p q => ⟨(h3 i p q).1, ⟨(h3 i p q).2.1.1, fun k hk => Nat.lt_of_lt_of_le ((h3 i p q).2.1.2 k hk) hH⟩, (h3 i p q).2.2⟩⟩
/-- one frame more, whose list is younger than all of them -/
theorem ObP.push {B : Nat} {w0 w : World} {v : Value} {fs : List (Int × List Int)} (h : ObP B w0.heap.size w0 v fs) (hb : Below w0.heap.size w0 w) {A : Option Addr} {n c : Nat} {xs : List Int} (hu : Ow cI 2 w0.heap.size w (.slice A n c) xs) (hB : B ≤ w0.heap.size) (x : Int) :
    ∃ hs : List (Int × Hd), Ow cF 29 B w v hs ∧ hs.length = fs.length ∧ ∀ w' v' W, w.grownBy W none → W.heap.size = w.heap.size + 1 → Ow cF 29 B w' v' (hs ++ [(x, ⟨A, n, c⟩)]) → W.grownBy w' v.ownBlock →
      (v'.ownBlock = v.ownBlock ∨ v'.ownBlock = some (w.heap.size + 1)) → ObP B w'.heap.size w' v' (fs ++ [(x, xs)]) := by
  obtain ⟨hs, h1, h2, h3⟩ := h
  have hsz0 := hb.size
  refine ⟨hs, h1.1.below hb, h2, fun w' v' W hw hWz ho hg hat => ?_⟩
  have hsz : w.heap.size < w'.heap.size := by have := hg.size; omega
  have hv : ∀ k, v.ownBlock = some k → k < w0.heap.size := fun k hk => h1.2 k hk
  have key : ∀ (u : Value) (ys : List Int), Ow cI 2 B w u ys → (∀ k, u.ownBlock = some k → k < w.heap.size ∧ v.ownBlock ≠ some k) →
      Ob cI 2 B w'.heap.size w' u ys ∧ ∀ k, u.ownBlock = some k → v'.ownBlock ≠ some k := by
    intro u ys hu hk
    refine ⟨⟨(hu.kept hw ?_).kept hg ?_, fun k e => by have := (hk k e).1; omega⟩, fun k e e3 => ?_⟩
    · cases hq : u.ownBlock with
      | none => exact .inl rfl
      | some k => exact .inr (by simp)
    · cases hq : u.ownBlock with
      | none => exact .inl rfl
      | some k => exact .inr fun e => (hk k hq).2 e.symm
    · rcases hat with e2 | e2
      · exact (hk k e).2 (e2 ▸ e3)
      · rw [e2] at e3; injection e3 with e3; have := (hk k e).1; omega
  have hnew : ∀ k, (Value.slice A n c).ownBlock = some k → w0.heap.size ≤ k ∧ k < w.heap.size := fun k hk => hu.block k hk
  have hold : ∀ i (p : i < hs.length), ∀ k, hs[i].2.val.ownBlock = some k → k < w0.heap.size := fun i p k hk => (h3 i p (by omega)).2.1.2 k hk
  have e3 : ∀ (p : hs.length < (hs ++ [(x, (⟨A, n, c⟩ : Hd))]).length), (hs ++ [(x, (⟨A, n, c⟩ : Hd))])[hs.length] = (x, ⟨A, n, c⟩) := fun p => by simp
  refine ⟨_, ⟨ho, fun k hk => (ho.block k hk).2⟩, by simp [h2], fun i p q => ?_⟩
  by_cases hi : i < hs.length
  · have e1 : (hs ++ [(x, (⟨A, n, c⟩ : Hd))])[i] = hs[i] := List.getElem_append_left hi
    have e2 : (fs ++ [(x, xs)])[i] = fs[i]'(by omega) := List.getElem_append_left (by omega)
    obtain ⟨a1, a2, a3⟩ := h3 i hi (by omega)
    have kk := key _ _ (a2.1.below hb) (fun k hk => ⟨by have := hold i hi k hk; omega, (a3 k hk).1⟩)
    rw [e1, e2]
    refine ⟨a1, kk.1, fun k hk => ⟨kk.2 k hk, fun j r hj => ?_⟩⟩
    by_cases hjl : j < hs.length
    · rw [List.getElem_append_left hjl]
      exact (a3 k hk).2 j hjl hj
    · have : j = hs.length := by simp at r; omega
      subst this
      rw [e3]
      intro e
      have q1 := (hnew k e).1
      have q2 := hold i hi k hk
      omega
  · have hi' : i = hs.length := by simp at p; omega
    subst hi'
    have e2 : (fs ++ [(x, xs)])[hs.length] = (x, xs) := by
      rw [List.getElem_append_right (by omega)]; simp [h2]
    rw [e3, e2]
    have kk := key (.slice A n c) xs (hu.mono hB) (fun k hk => ⟨(hnew k hk).2, fun e => by have := hv k e; have := (hnew k hk).1; omega⟩)
    refine ⟨rfl, kk.1, fun k hk => ⟨kk.2 k hk, fun j r hj => ?_⟩⟩
    have hjl : j < hs.length := by simp at r; omega
    rw [List.getElem_append_left hjl]
    intro e
    have q1 := (hnew k hk).1
    have q2 := hold j hjl k e
    omega
theorem SlP.at_ {w : World} {A : Option Addr} {n c : Nat} {fs : List (Int × List Int)} (h : SlP w (.slice A n c) fs) {k : Nat} (hk : k < fs.length) :
    ∃ b o Ai ci, A = some ⟨b, o, none⟩ ∧ b < w.heap.size ∧ w.cell? ⟨b, o + k * 2, none⟩ = some (.int .i64 fs[k].1) ∧ w.cell? ⟨b, o + k * 2 + 1, none⟩ = some (.slice Ai fs[k].2.length ci) ∧ Sl cI w (.slice Ai fs[k].2.length ci) fs[k].2 := by
  obtain ⟨hs, h1, h2, h3⟩ := h
  have hk' : k < hs.length := by omega
  obtain ⟨b, o, e1, hb, hc⟩ := h1.cell hk'
  obtain ⟨a1, a2⟩ := h3 k hk' hk
  have c0 := hc 0 (.int .i64 hs[k].1) rfl
  have c1 := hc 1 hs[k].2.val rfl
  obtain ⟨Ai, ci, e2⟩ := a2.opn
  rw [e2] at a2 c1
  rw [a1] at c0
  exact ⟨b, o, Ai, ci, e1, hb, c0, c1, a2⟩
/- for a seat whose law marks lists of frames: function 12 -/
/-- frames numbered -/
def numF : Int → List (Int × List Int) → List (Int × List Int)
  | _, [] => []
  | k, x :: l => (k, numL x.2.length (k + 1)) :: numF (k + 1 + x.2.length) l
theorem numF_length (k : Int) (fs : List (Int × List Int)) : (numF k fs).length = fs.length := by
  induction fs generalizing k with
  | nil => rfl
  | cons x l ih => simp [numF, ih]
theorem numF_app (k : Int) (a b : List (Int × List Int)) : numF k (a ++ b) = numF k a ++ numF (k + szF a) b := by
  induction a generalizing k with
  | nil => simp [numF, szF]
  | cons x l ih =>
    rw [List.cons_append, numF, ih, numF, szF, List.cons_append]
    congr 3
    push_cast
    omega
theorem numF_get (k : Int) (fs : List (Int × List Int)) (j : Nat) (h : j < fs.length) : (numF k fs)[j]'(by rw [numF_length]; exact h) = (k + szF (fs.take j), numL fs[j].2.length (k + szF (fs.take j) + 1)) := by
  have e : fs = fs.take j ++ fs[j] :: fs.drop (j + 1) := by rw [← List.drop_eq_getElem_cons h, List.take_append_drop]
  have e2 : numF k fs = numF k (fs.take j) ++ numF (k + szF (fs.take j)) (fs[j] :: fs.drop (j + 1)) := by
    conv => lhs; rw [e]
    rw [numF_app]
  have hl : (numF k (fs.take j)).length = j := by rw [numF_length, List.length_take]; omega
  simp only [e2]
  rw [List.getElem_append_right (by omega)]
  simp only [hl, Nat.sub_self]
  rfl
/-- the first j marked -/
def mkF (k : Int) (fs : List (Int × List Int)) (j : Nat) : List (Int × List Int) := numF k (fs.take j) ++ fs.drop j
theorem mkF_zero (k : Int) (fs : List (Int × List Int)) : mkF k fs 0 = fs := by simp [mkF, numF]
theorem mkF_end (k : Int) (fs : List (Int × List Int)) : mkF k fs fs.length = numF k fs := by simp [mkF]
theorem mkF_length (k : Int) (fs : List (Int × List Int)) (j : Nat) : (mkF k fs j).length = fs.length := by
  unfold mkF; rw [List.length_append, numF_length, List.length_take, List.length_drop]; omega
theorem mkF_at (k : Int) (fs : List (Int × List Int)) (j : Nat) (h : j < fs.length) : (mkF k fs j)[j]'(by rw [mkF_length]; exact h) = fs[j] := by
  have hl : (numF k (fs.take j)).length = j := by rw [numF_length, List.length_take]; omega
  unfold mkF
  rw [List.getElem_append_right (by omega)]
  simp only [hl, Nat.sub_self, List.getElem_drop, Nat.add_zero]
theorem mkF_succ (k : Int) (fs : List (Int × List Int)) (j : Nat) (h : j < fs.length) : mkF k fs (j + 1) = (mkF k fs j).set j (k + szF (fs.take j), numL fs[j].2.length (k + szF (fs.take j) + 1)) := by
  have hl : (numF k (fs.take j)).length = j := by rw [numF_length, List.length_take]; omega
  unfold mkF
  rw [List.take_succ_eq_append_getElem h, numF_app, List.set_append, if_neg (by omega), hl, Nat.sub_self, List.drop_eq_getElem_cons h, List.set_cons_zero, List.append_assoc]
  rfl
/-- a store into a frame's number -/
theorem ObP.setN {B H g n c : Nat} {w : World} {fs : List (Int × List Int)} (h : ObP B H w (.slice (some ⟨g, 0, none⟩) n c) fs) {j : Nat} (hj : j < fs.length) (y : Int) :
    ObP B H (w.setCell ⟨g, j * 2, none⟩ (.int .i64 y)) (.slice (some ⟨g, 0, none⟩) n c) (fs.set j (y, fs[j].2)) := by
  obtain ⟨hs, h1, h2, h3⟩ := h
  have hj' : j < hs.length := by omega
  refine ⟨hs.set j (y, hs[j].2), ⟨?_, h1.2⟩, by simp [h2], fun i p q => ?_⟩
  · obtain ⟨⟨A, c', hv, hc, hm⟩, ho⟩ := h1.1
    injection hv with hA hn hc'
    subst hA; subst hc'; subst hn
    refine ⟨⟨_, c, by rw [List.length_set], by rw [List.length_set]; exact hc, hm⟩, ?_⟩
    have := (ho.stored (j * 2) (.int .i64 y)).1
    rw [List.length_set]
    rw [show flat cF (hs.set j (y, hs[j].2)) = (flat cF hs).set (j * 2) (.int .i64 y) from ?_]
    · exact this
    · clear this ho h3 h1 h2
      clear hc
      induction hs generalizing j with
      | nil => simp at hj'
      | cons x xs ih =>
        cases j with
        | zero => simp [flat_cons, cF]
        | succ j =>
          have := ih (j := j) (by omega) (by simpa using hj')
          rw [List.set_cons_succ, flat_cons, List.getElem_cons_succ, this, flat_cons]
          simp [cF, Nat.add_mul]
  · simp only [List.length_set] at p q
    have hv2 : ∀ i (p : i < hs.length), (hs.set j (y, hs[j].2))[i]'(by rw [List.length_set]; exact p) = (if j = i then y else hs[i].1, hs[i].2) := fun i p => by
      rw [List.getElem_set]
      split
      · rename_i e; subst e; rfl
      · rfl
    obtain ⟨a1, a2, a3⟩ := h3 i p q
    have hne : ∀ k, hs[i].2.val.ownBlock = some k → k ≠ g := fun k hk e => (a3 k hk).1 (by rw [e]; rfl)
    rw [hv2 i p]
    refine ⟨?_, ⟨?_, a2.2⟩, fun k hk => ⟨(a3 k hk).1, fun j' r hj'' => ?_⟩⟩
    · rw [List.getElem_set]
      split
      · rfl
      · exact a1
    · rw [List.getElem_set]
      have e2 : (if j = i then (y, fs[j].2) else fs[i]).2 = fs[i].2 := by
        split
        · rename_i e; subst e; rfl
        · rfl
      rw [e2]
      exact a2.1.far (p := ⟨g, j * 2, none⟩) (fun e => hne _ e rfl) _
    · simp only [List.length_set] at r
      rw [hv2 j' r]
      exact (a3 k hk).2 j' r hj''
/-- a frame's list rewritten -/
theorem ObP.setR {B H : Nat} {w w' : World} {v : Value} {fs : List (Int × List Int)} (h : ObP B H w v fs) {j : Nat} (hj : j < fs.length) {u : Value} {ys : List Int} (hyl : ys.length = fs[j].2.length) (hu : ∀ hs : List (Int × Hd), Sl cF w v hs → (p : j < hs.length) → hs[j].2.val = u) (ho : Ow cI 2 B w' u ys) (hg : w.grownBy w' u.ownBlock) :
    ObP B H w' v (fs.set j (fs[j].1, ys)) := by
  obtain ⟨hs, h1, h2, h3⟩ := h
  have hj' : j < hs.length := by omega
  have hu' := hu hs h1.sl hj'
  subst hu'
  obtain ⟨b1, b2, b3⟩ := h3 j hj' hj
  refine ⟨hs, ⟨h1.1.kept hg ?_, h1.2⟩, by simp [h2], fun i p q => ?_⟩
  · cases hq : v.ownBlock with
    | none => exact .inl rfl
    | some k => exact .inr fun e => (b3 k e.symm).1 hq
  · simp only [List.length_set] at q
    obtain ⟨a1, a2, a3⟩ := h3 i p q
    rw [List.getElem_set]
    by_cases e : j = i
    · subst e
      rw [if_pos rfl]
      exact ⟨a1, ⟨ho, a2.2⟩, a3⟩
    · rw [if_neg e]
      refine ⟨a1, ⟨a2.1.kept hg ?_, a2.2⟩, a3⟩
      cases hq : hs[i].2.val.ownBlock with
      | none => exact .inl rfl
      | some k => exact .inr fun e2 => (b3 k e2.symm).2 i p (fun e3 => e e3.symm) hq
set_option maxRecDepth 100000 in
theorem u_eq_PosetS (v u : Value) (fs : List (Int × List Int)) (w : World) (hx : SlP w v fs) (hy : SlP w u fs) (hn : szF fs ≤ 268435456) :
    Calls Tryz.prog 9 #[v, u] w fun e w' => e = .returned (.bool true) ∧ Below w.heap.size w w' := by
  obtain ⟨A, c, rfl⟩ := hx.opn
  obtain ⟨B, d, rfl⟩ := hy.opn
  have hln : fs.length ≤ 268435456 := Nat.le_trans (szF_len fs) hn
  have HX := Lib.hid hx
  have HY := Lib.hid hy
  have HG : Hid (∀ j (h : j < fs.length), fs[j].2.length ≤ 268435456) := Lib.hid (fun j h => Nat.le_trans (szF_get fs j h) hn)
  clear hx hy hn
  go_enter Tryz.func9, Tryz.ntmps9
  go_wp2
  go_loopw [5] (fun i wr => ∃ j : Nat, j ≤ fs.length ∧ i = .int .i64 j ∧ Below w.heap.size w wr) (fun i _ => fs.length - (intOf i).toNat)
  case atStart => exact ⟨0, Nat.zero_le _, rfl, Below.refl _ _⟩
  case round =>
    obtain ⟨j, hj, rfl, hb⟩ := hrel
    have HB := Lib.hid hb
    by_cases hlt : j < fs.length
    · obtain ⟨b, o, Ai, ci, e1, hbl, hc0, hc1, hs⟩ := (HX.out.below hb).at_ hlt
      obtain ⟨b', o', Ai', ci', e1', hbl', hd0, hd1, hs'⟩ := (HY.out.below hb).at_ hlt
      subst e1
      subst e1'
      have HC := Lib.hid (fun X (hX : Below wr.heap.size wr X) => u_eq_Poset (fs[j]'hlt).1 _ _ _ X (hs.below hX) (hs'.below hX) (HG.out j hlt))
      generalize (fs[j]'hlt).2.length = m at *
      generalize (fs[j]'hlt).1 = x at *
      clear hb hs hs'
      go_upto_region 10 with fail
      refine wp_region_sched (Below wr.heap.size wr) 10 [0, 1, 2, 3, 4, 5, 6, 7, 9] (List.range 10) (by kernel_rfl) (by kernel_rfl) (Below.refl _ _).drew ?_
      simp only [show List.range 10 = [0, 1, 2, 3, 4, 5, 6, 7, 8, 9] from rfl]
      repeat
        apply wpSched_q rfl rfl
        case h =>
          intro w' hI K hK
          have hc0' := (hI.cell (p := ⟨b, o + j * 2, none⟩) hbl).trans hc0
          have hc1' := (hI.cell (p := ⟨b, o + j * 2 + 1, none⟩) hbl).trans hc1
          have hd0' := (hI.cell (p := ⟨b', o' + j * 2, none⟩) hbl').trans hd0
          have hd1' := (hI.cell (p := ⟨b', o' + j * 2 + 1, none⟩) hbl').trans hd1
          simp only [quietV, stillV]
          go_simp
          exact hK
        go_simp
      refine wpSched_r rfl rfl ?_ (Below.refl _ _).drew
      intro K hK hI
      go_simp
      refine (HC.out _ hI).mono ?_
      rintro e w2 ⟨rfl, hb2⟩
      have hI2 := hI.trans (hb2.mono hI.size)
      refine hK _ _ hI2 ?_
      clear hK K
      have HB2 := Lib.hid (bthen HB.out hI2)
      clear hI hI2 hb2 hc0 hc1 hd0 hd1
      repeat
        apply wpSched_q rfl rfl
        case h =>
          intro w' hI K hK
          simp only [quietV, stillV]
          go_simp
          exact hK
        go_simp
      refine wpSched_nil ?_
      try simp only [List.drop_succ_cons, List.drop_zero, List.drop_nil]
      go_wp2
      go_roundw
      case rel => exact ⟨j + 1, by omega, by go_num, HB2.out⟩
      case measure => simp [intOf]; omega
    · clear hb
      obtain rfl : j = fs.length := by omega
      go_wp2
      go_ret
      exact ⟨rfl, HB.out⟩
set_option maxRecDepth 100000 in
theorem u_mark_PosetS (v : Value) (fs : List (Int × List Int)) (k : Int) (B H : Nat) (w : World) (h : ObP B H w v fs) (hl : szF fs ≤ 33554432) (hk : 0 ≤ k ∧ k ≤ 67108864) :
    Calls Tryz.prog 12 #[v, .int .i64 k] w fun e w' => e = .returned (.int .i64 (k + szF fs)) ∧ ObP B H w' v (numF k fs) ∧ Keep B H w w' := by
  obtain ⟨A, c, rfl⟩ := h.opn
  have hln : fs.length ≤ 33554432 := Nat.le_trans (szF_len fs) hl
  have HG := Lib.hid (fun j (h : j < fs.length) => Nat.le_trans (szF_get fs j h) hl)
  have HS := Lib.hid (fun j (h : j < fs.length) => szF_succ fs j h)
  have HT := Lib.hid (fun j => Nat.le_trans (szF_take fs j) hl)
  have HMS := Lib.hid (fun j (h : j < fs.length) => mkF_succ k fs j h)
  have HMA := Lib.hid (fun j (h : j < fs.length) => mkF_at k fs j h)
  have HML := Lib.hid (fun j => mkF_length k fs j)
  have HME := Lib.hid (mkF_end k fs)
  have HTE : Hid (szF (fs.take fs.length) = szF fs) := Lib.hid (by rw [List.take_length])
  have H0 : Hid (ObP B H w (.slice A fs.length c) (mkF k fs 0)) := Lib.hid (by rw [mkF_zero]; exact h)
  clear hl h
  go_enter Tryz.func12, Tryz.ntmps12
  go_wp2
  go_loopw [1, 5] (fun q i wr => ∃ j : Nat, j ≤ fs.length ∧ i = .int .i64 j ∧ q = .int .i64 (k + szF (fs.take j)) ∧ ObP B H wr (.slice A fs.length c) (mkF k fs j) ∧ Keep B H w wr) (fun _ i _ => fs.length - (intOf i).toNat)
  case atStart => exact ⟨0, Nat.zero_le _, rfl, by simp [szF], H0.out, Keep.of_below (Below.refl _ _)⟩
  case round =>
    obtain ⟨j, hj, rfl, rfl, ho, hkp⟩ := hrel
    have HKP := Lib.hid hkp
    by_cases hlt : j < fs.length
    · have hlm : j < (mkF k fs j).length := by rw [HML.out]; exact hlt
      have hma := HMA.out j hlt
      have hms := HMS.out j hlt
      have hT := HT.out j
      have hSu := HS.out j hlt
      have hG := HG.out j hlt
      obtain ⟨y, hy⟩ : ∃ y : Nat, szF (fs.take j) = y := ⟨_, rfl⟩
      rw [hy] at hms hT hSu ⊢
      -- the outer block
      have hout : ∃ g, A = some ⟨g, 0, none⟩ ∧ B ≤ g ∧ g < H ∧ g < wr.heap.size ∧ (∀ i, wr.frozen? ⟨g, i, none⟩ = false) := by
        obtain ⟨hs, h1, h2, -⟩ := ho
        obtain ⟨g, c', e, hB, hz, hf, -⟩ := h1.1.form (by omega)
        injection e with e1
        subst e1
        exact ⟨g, rfl, hB, h1.2 g rfl, hz, hf⟩
      obtain ⟨g, rfl, hgB, hgH, hgz, hgf⟩ := hout
      obtain ⟨b, o, Ai, ci, e1, hbl, hc0, hc1, -⟩ := ho.sl.at_ hlm
      injection e1 with e1
      injection e1 with e2 e3
      subst e2
      subst e3
      have hfz := hgf (j * 2)
      rw [Nat.zero_add] at hc0 hc1
      have ho2 := ho.setN hlm (k + (y : Int))
      rw [hma] at hc1 ho2
      have hlm2 : j < ((mkF k fs j).set j (k + (y : Int), fs[j].2)).length := by rw [List.length_set]; exact hlm
      have hrow : Ob cI 2 B H (wr.setCell ⟨g, j * 2, none⟩ (.int .i64 (k + (y : Int)))) (.slice Ai fs[j].2.length ci) fs[j].2 ∧ (∀ hs : List (Int × Hd), Sl cF (wr.setCell ⟨g, j * 2, none⟩ (.int .i64 (k + (y : Int)))) (.slice (some ⟨g, 0, none⟩) fs.length c) hs → (p : j < hs.length) → hs[j].2.val = .slice Ai fs[j].2.length ci) := by
        have cell1 : (wr.setCell ⟨g, j * 2, none⟩ (.int .i64 (k + (y : Int)))).cell? ⟨g, j * 2 + 1, none⟩ = some (.slice Ai fs[j].2.length ci) := by
          rw [show ∀ x, (wr.setCell ⟨g, j * 2, none⟩ x).cell? ⟨g, j * 2 + 1, none⟩ = wr.cell? ⟨g, j * 2 + 1, none⟩ from fun x => by apply World.cell?_setCell_other; intro e; injection e; omega]
          exact hc1
        have hval : ∀ hs : List (Int × Hd), Sl cF (wr.setCell ⟨g, j * 2, none⟩ (.int .i64 (k + (y : Int)))) (.slice (some ⟨g, 0, none⟩) fs.length c) hs → (p : j < hs.length) → hs[j].2.val = .slice Ai fs[j].2.length ci := fun hs hsl p => by
          obtain ⟨b, o, e1, hb, hc⟩ := hsl.cell p
          injection e1 with e1
          injection e1 with e2 e3
          subst e2
          subst e3
          have c1 := hc 1 hs[j].2.val rfl
          rw [show (0 + j * cF.size + 1) = j * 2 + 1 by simp [cF]] at c1
          rw [cell1] at c1
          injection c1 with c1
          exact c1.symm
        obtain ⟨hs, h1, h2, h3⟩ := ho2
        have hjs : j < hs.length := by rw [h2]; exact hlm2
        obtain ⟨a1, a2, a3⟩ := h3 j hjs hlm2
        rw [hval hs h1.sl hjs] at a2
        rw [List.getElem_set_self] at a2
        exact ⟨a2, hval⟩
      have HRow := Lib.hid hrow
      have HO2 := Lib.hid ho2
      have HMk := Lib.hid (mark_int64S (.slice Ai fs[j].2.length ci) fs[j].2 (k + (y : Int) + 1) B (wr.setCell ⟨g, j * 2, none⟩ (.int .i64 (k + (y : Int)))) hrow.1.1 (by omega) (by omega))
      have hk1 : Keep B H wr (wr.setCell ⟨g, j * 2, none⟩ (.int .i64 (k + (y : Int)))) := ⟨rfl, rfl, rfl, by simp [World.setCell], fun i hi hor => Below.heap_setCell _ _ _ _ (fun e => by simp at e; omega)⟩
      have HK1 := Lib.hid hk1
      have HFin : Hid (∀ w', Ow cI 2 B w' (.slice Ai fs[j].2.length ci) (numL fs[j].2.length (k + (y : Int) + 1)) → (wr.setCell ⟨g, j * 2, none⟩ (.int .i64 (k + (y : Int)))).grownBy w' (Value.slice Ai fs[j].2.length ci).ownBlock → ObP B H w' (.slice (some ⟨g, 0, none⟩) fs.length c) (mkF k fs (j + 1))) := Lib.hid fun w' how hgr => by
        have := ho2.setR hlm2 (u := .slice Ai fs[j].2.length ci) (ys := numL fs[j].2.length (k + (y : Int) + 1)) (by rw [numL_length, List.getElem_set_self]) hrow.2 how hgr
        rw [List.getElem_set_self, List.set_set] at this
        rw [hms]
        exact this
      have hSS : szF (fs.take (j + 1)) = y + (1 + fs[j].2.length) := hSu
      have HSS := Lib.hid hSS
      have hcell1 : (wr.setCell ⟨g, j * 2, none⟩ (.int .i64 (k + (y : Int)))).cell? ⟨g, j * 2 + 1, none⟩ = some (.slice Ai fs[j].2.length ci) := by
        rw [show ∀ x, (wr.setCell ⟨g, j * 2, none⟩ x).cell? ⟨g, j * 2 + 1, none⟩ = wr.cell? ⟨g, j * 2 + 1, none⟩ from fun x => by apply World.cell?_setCell_other; intro e; injection e; omega]
        exact hc1
      have HRB : Hid (∀ q, (Value.slice Ai fs[j].2.length ci).ownBlock = some q → B ≤ q ∧ q < H) := Lib.hid fun q hq => ⟨(hrow.1.1.block q hq).1, hrow.1.2 q hq⟩
      generalize fs[j].2.length = m at *
      generalize numL m (k + (y : Int) + 1) = ys at *
      clear hkp hma hms hSu hSS hgf ho ho2 hrow hk1 hy
      go_wp2_with fail
      refine HMk.out.mono ?_
      rintro e w2 ⟨rfl, ho3, hg3⟩
      have Z1 := Lib.hid (HFin.out w2 ho3 hg3)
      have Z2 := Lib.hid (HKP.out.trans (HK1.out.trans (Keep.of_grown hg3 HRB.out)))
      clear ho3 hg3 hc0 hc1 hcell1
      go_wp2
      go_roundw
      case rel => exact ⟨j + 1, by omega, by go_num, by rw [HSS.out]; go_num, Z1.out, Z2.out⟩
      case measure => simp [intOf]; omega
    · obtain rfl : j = fs.length := by omega
      rw [HME.out] at ho
      have HO := Lib.hid ho
      rw [HTE.out]
      clear ho hkp
      go_wp2
      go_ret
      exact ⟨rfl, HO.out, HKP.out⟩
set_option maxRecDepth 100000 in
theorem u_held_PosetS (v : Value) (fs : List (Int × List Int)) (k : Int) (w : World) (h : SlP w v (numF k fs)) (hl : szF fs ≤ 33554432) (hk : 0 ≤ k ∧ k ≤ 67108864) :
    Calls Tryz.prog 13 #[v, .int .i64 k] w fun e w' => e = .returned (.int .i64 (k + szF fs)) ∧ Below w.heap.size w w' := by
  obtain ⟨A, c, rfl⟩ := h.opn
  have hNL := numF_length k fs
  rw [hNL] at h ⊢
  have hln : fs.length ≤ 33554432 := Nat.le_trans (szF_len fs) hl
  have HH := Lib.hid h
  have HG := Lib.hid (fun j (h : j < fs.length) => Nat.le_trans (szF_get fs j h) hl)
  have HS := Lib.hid (fun j (h : j < fs.length) => szF_succ fs j h)
  have HT := Lib.hid (fun j => Nat.le_trans (szF_take fs j) hl)
  have HNG := Lib.hid (fun j (h : j < fs.length) => numF_get k fs j h)
  have HTE : Hid (szF (fs.take fs.length) = szF fs) := Lib.hid (by rw [List.take_length])
  have HNL := Lib.hid hNL
  clear hl h hNL
  go_enter Tryz.func13, Tryz.ntmps13
  go_wp2
  go_loopw [1, 5] (fun q i wr => ∃ j : Nat, j ≤ fs.length ∧ i = .int .i64 j ∧ q = .int .i64 (k + szF (fs.take j)) ∧ Below w.heap.size w wr) (fun _ i _ => fs.length - (intOf i).toNat)
  case atStart => exact ⟨0, Nat.zero_le _, rfl, by simp [szF], Below.refl _ _⟩
  case round =>
    obtain ⟨j, hj, rfl, rfl, hb⟩ := hrel
    have HB := Lib.hid hb
    by_cases hlt : j < fs.length
    · obtain ⟨b, o, Ai, ci, e1, hbl, hc0, hc1, hs⟩ := (HH.out.below hb).at_ (k := j) (by rw [HNL.out]; exact hlt)
      subst e1
      rw [HNG.out j hlt] at hc0 hc1 hs
      dsimp only at hc0 hc1 hs
      rw [numL_length] at hc1 hs
      have hT := HT.out j
      have hSu := HS.out j hlt
      have hG := HG.out j hlt
      obtain ⟨y, hy⟩ : ∃ y : Nat, szF (fs.take j) = y := ⟨_, rfl⟩
      rw [hy] at hT hSu hc0 hs ⊢
      have HSu := Lib.hid hSu
      generalize fs[j].2.length = m at *
      have HHe := Lib.hid (u_held_SI (.slice Ai m ci) m (k + (y : Int) + 1) wr hs (by omega) (by omega))
      have heq : (((k + (y : Int)) : Int) != (k + (y : Int))) = false := by simp
      have hge : ¬ (k + (y : Int) + 1 + (m : Int) < 0) := by omega
      clear hb hs hy hSu
      go_wp2_with fail
      refine HHe.out.mono ?_
      rintro e w2 ⟨rfl, hb2⟩
      have HB2 := Lib.hid (bthen HB.out hb2)
      clear hb2 hc0 hc1
      go_wp2
      go_roundw
      case rel => exact ⟨j + 1, by omega, by go_num, by rw [HSu.out]; go_num, HB2.out⟩
      case measure => simp [intOf]; omega
    · obtain rfl : j = fs.length := by omega
      rw [HTE.out]
      clear hb
      go_wp2
      go_ret
      exact ⟨rfl, HB.out⟩
end Go.Proofs.YtkdldfomdbgcaaaGreat

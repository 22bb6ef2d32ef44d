/- Joined of several texts: Open, OpM. -/
import Derived.Test.YtcikenffeekkeaaGreatDoorY03
import Derived.ProofKit
import Derived.OpenShut
import Derived.ShutString
import Derived.ChangeOld
import Derived.Deep.Slices
import Derived.Lib.SmallJoins
import Derived.Deep.Fields
import Derived.ChangeSame
namespace Go.Proofs.YtcikenffeekkeaaGreatDoor
open Go.RowKit
set_option linter.unusedVariables false
set_option linter.unusedSimpArgs false
/- Arguments opened: a slice that came in, as data, reads as a list in the words of Mem; over any program. -/
open Go.RowKit Go.ChangeShapes Go.WideShapes Go.Deep

/-- cells that read from an address on, as a slice -/
theorem sl_of_cells {α : Type} {K : Cod α} {w : World} {a : Addr} {n c : Nat} {xs : List α} (hn : n = xs.length) (hc : n ≤ c) (hm : c ≤ maxLen)
    (hcell : ∀ k u, (flat K xs)[k]? = some u → w.cell? (a.add k) = some u) : Sl K w (.slice (some a) n c) xs := by
  subst hn
  refine ⟨some a, c, rfl, hc, by simp only [maxLen] at hm; omega, ?_⟩
  rcases xs with _ | ⟨x, xs⟩
  · exact .inl rfl
  · right
    have hp := K.pos
    have hlen := flat_length (K := K) (x :: xs)
    have h0lt : 0 < (flat K (x :: xs)).length := by rw [hlen, List.length_cons, Nat.add_mul]; omega
    have h0 := hcell 0 _ (List.getElem?_eq_getElem h0lt)
    have ha : a.add 0 = a := by simp [Addr.add]
    rw [ha] at h0
    obtain ⟨b, o, s⟩ := a
    have hs : s = none := by
      cases s with
      | none => rfl
      | some s =>
        simp only [World.cell?] at h0
        split at h0
        · simp at h0
        · cases h0
    subst hs
    exact ⟨b, o, rfl, World.block_lt_of_cell? w _ h0, fun k u hu => by rw [← add_lit]; exact hcell k u hu⟩

section
variable {H : Type} {enc : TypeId × Value → H} {P : Program} {w : World} {base : Nat} {spare : Nat → Bool} {held : Bool}
theorem open_slice_fields {t e : TypeId} {fs : Array Field} {fuel : Nat} {cs : List Value} {x : DataW H × List MemPlace} (ht : P.underlying t = some (.slice e)) (he : P.underlying e = some (.struct fs))
    (hone : oneCellFields P fs = true) (hC : P.cellsOf e = fs.size) (h : DataW.trod enc P w base spare held fuel t cs = some x) :
    (cs = [.slice none 0 0] ∧ x = (.nil, [])) ∨
    ∃ (a : Addr) (len cap m : Nat) (D : Nat → DataW H) (Pl : Nat → List MemPlace), cs = [.slice (some a) len cap] ∧ base ≤ a.block ∧ len ≤ cap ∧ cap ≤ maxLen ∧ m = (if spare a.block then cap else len) ∧
      x = (.slice ((List.range len).map D) ((List.range (m - len)).map fun j => D (len + j)), MemPlace.row a (m * fs.size) ++ (List.range m).flatMap Pl) ∧
      ∀ i, i < m → ∃ (ys : List (DataW H × List MemPlace)) (n : Nat), D i = .agg (ys.map (·.1)) ∧ Pl i = ys.flatMap (·.2) ∧ ys.length = fs.size ∧
        ∀ (j : Nat) (f : Field), fs[j]? = some f → ∃ (v : Value) (y : DataW H × List MemPlace), w.cell? (a.add (i * fs.size + j)) = some v ∧ ys[j]? = some y ∧ DataW.trod enc P w base spare held n f.type [v] = some y := by
  rcases open_slice ht h with h0 | ⟨a, len, cap, m, n, D, Pl, hcs, hb, hl, hm, hmm, hx, hi⟩
  · exact .inl h0
  · refine .inr ⟨a, len, cap, m, D, Pl, hcs, hb, hl, hm, hmm, by rw [hC] at hx; exact hx, fun i him => ?_⟩
    obtain ⟨cs', hc, ht'⟩ := hi i him
    rw [hC] at hc
    obtain ⟨ys, n', hn', hy, hlen, hyl, hf⟩ := DataW.trod_struct he ht'
    obtain ⟨_, hcl, hat⟩ := World.cells?_some hc
    simp only [Prod.mk.injEq] at hy
    refine ⟨ys, n', hy.1, hy.2, hyl, fun j f hj => ?_⟩
    obtain ⟨ho, hk⟩ := hone_of hone j f hj
    have hjl : j < fs.size := (Array.getElem?_eq_some_iff.1 hj).1
    have hcell := hat j hjl
    have hv : cs'[j]? = some (cs'[j]'(by omega)) := List.getElem?_eq_getElem (by omega)
    have h1 := hf j f hj
    rw [ho, hk] at h1
    have hone' : (cs'.drop j).take 1 = [cs'[j]'(by omega)] := by
      rw [List.drop_eq_getElem_cons (by omega)]
      rfl
    rw [hone'] at h1
    have hys : ys[j]? = some (ys[j]'(by omega)) := List.getElem?_eq_getElem (by omega)
    refine ⟨_, _, ?_, hys, h1.trans hys⟩
    rw [← Go.Deep.add_add, hcell, hv]

/-- a slice of int64s that came in -/
theorem open_SI {t e : TypeId} (ht : P.underlying t = some (.slice e)) (he : P.underlying e = some (.int .i64)) (hc : P.cellsOf e = 1) {fuel : Nat} {v : Value} {x : DataW H × List MemPlace}
    (h : DataW.trod enc P w base spare held fuel t [v] = some x) : ∃ xs : List Int, Sl cI w v xs := by
  rcases open_ints ht he hc h with ⟨hcs, _⟩ | ⟨a, len, cap, zs, hcs, _, hl, hm, hz, _, hcell, _⟩
  · injection hcs with hv _
    subst hv
    exact ⟨[], Sl.nil⟩
  · injection hcs with hv _
    subst hv
    have hzl : len ≤ zs.length := by rw [hz]; split <;> omega
    refine ⟨zs.take len, sl_of_cells (by simp; omega) hl hm fun k u hu => ?_⟩
    rw [flat_cI, List.getElem?_map, List.getElem?_take] at hu
    split at hu
    · rename_i hk
      have hkz : k < zs.length := by omega
      rw [List.getElem?_eq_getElem hkz] at hu
      simp at hu
      rw [hcell k hkz, ← hu]
      simp [hkz]
    · simp at hu
/-- a slice of pairs of int64s that came in -/
theorem open_SN {t e : TypeId} {f0 f1 : Field} (ht : P.underlying t = some (.slice e)) (he : P.underlying e = some (.struct #[f0, f1])) (hone : oneCellFields P #[f0, f1] = true) (hC : P.cellsOf e = 2)
    (h0 : P.underlying f0.type = some (.int .i64)) (h1 : P.underlying f1.type = some (.int .i64)) {fuel : Nat} {v : Value} {x : DataW H × List MemPlace}
    (h : DataW.trod enc P w base spare held fuel t [v] = some x) : ∃ xs : List Nd, Sl cN w v xs := by
  rcases open_slice_fields ht he hone hC h with ⟨hcs, _⟩ | ⟨a, len, cap, m, D, Pl, hcs, -, hl, hm, hmm, -, hi⟩
  · injection hcs with hv _
    subst hv
    exact ⟨[], Sl.nil⟩
  · injection hcs with hv _
    subst hv
    have hml : len ≤ m := by rw [hmm]; split <;> omega
    have hex : ∀ i, i < len → ∃ p : Nd, w.cell? (a.add (i * 2)) = some (.int .i64 p.1) ∧ w.cell? (a.add (i * 2 + 1)) = some (.int .i64 p.2) := by
      intro i hil
      obtain ⟨ys, n, _, _, _, hf⟩ := hi i (by omega)
      obtain ⟨v0, y0, hc0, _, ht0⟩ := hf 0 f0 rfl
      obtain ⟨v1, y1, hc1, _, ht1⟩ := hf 1 f1 rfl
      obtain ⟨n0, e0, _⟩ := DataW.trod_int h0 ht0
      obtain ⟨n1, e1, _⟩ := DataW.trod_int h1 ht1
      injection e0 with e0 _
      injection e1 with e1 _
      subst e0; subst e1
      exact ⟨(n0, n1), by simpa using hc0, by simpa using hc1⟩
    obtain ⟨xs, hxl, hxs⟩ : ∃ xs : List Nd, xs.length = len ∧ ∀ i (hi : i < xs.length), w.cell? (a.add (i * 2)) = some (.int .i64 xs[i].1) ∧ w.cell? (a.add (i * 2 + 1)) = some (.int .i64 xs[i].2) := by
      clear hi hml hm hl hmm h
      induction len with
      | zero => exact ⟨[], rfl, fun i hi => by simp at hi⟩
      | succ l ih =>
        obtain ⟨xs, hxl, hxs⟩ := ih fun i hi => hex i (by omega)
        obtain ⟨p, hp0, hp1⟩ := hex l (by omega)
        refine ⟨xs ++ [p], by simp [hxl], fun i hi => ?_⟩
        by_cases hil : i < xs.length
        · rw [List.getElem_append_left hil]
          exact hxs i hil
        · have : i = l := by simp at hi; omega
          subst this
          rw [List.getElem_append_right (by omega)]
          simp only [hxl, Nat.sub_self, List.getElem_cons_zero]
          exact ⟨hp0, hp1⟩
    refine ⟨xs, sl_of_cells hxl.symm hl hm fun k u hu => ?_⟩
    have hkl : k < xs.length * 2 := by
      have := (List.getElem?_eq_some_iff.1 hu).1
      rwa [flat_length] at this
    have hq : k / 2 < xs.length := by omega
    have hr : k % 2 < 2 := Nat.mod_lt _ (by decide)
    have h2 := flat_get (K := cN) xs (k / 2) hq (k % 2) hr
    have hk : k / 2 * 2 + k % 2 = k := by omega
    rw [show k / 2 * cN.size + k % 2 = k from hk, hu] at h2
    obtain ⟨c0, c1⟩ := hxs (k / 2) hq
    rcases (show k % 2 = 0 ∨ k % 2 = 1 by omega) with e | e
    · rw [e] at h2 hk
      simp [cN] at h2
      rw [show k = k / 2 * 2 from by omega, c0, h2]
    · rw [e] at h2 hk
      simp [cN] at h2
      rw [show k = k / 2 * 2 + 1 from by omega, c1, h2]
end
/- An argument's datum that is a struct within a struct (a Model), opened. -/
open Go.ChangeShapes Go.WideShapes Go.ChangeAt Go.RowKit Go.Joins Go.Deep Go.Lib
theorem open_nest {H : Type} {enc : TypeId × Value → H} {P : Program} {w : World} {base : Nat} {spare : Nat → Bool} {held : Bool} {r : Reach} {b0 : Nat} {t : TypeId} {f0 f1 g0 g1 : Field} {v : Value} {d : DataW H} {p : List MemPlace}
    (hs : P.underlying t = some (.struct #[f0, f1])) (hg : P.underlying f0.type = some (.struct #[g0, g1])) (hC : P.cellsOf t = 3)
    (o0 : f0.offset = 0) (k0 : P.cellsOf f0.type = 2) (o1 : f1.offset = 2) (k1 : P.cellsOf f1.type = 1) (hone : oneCellFields P #[g0, g1] = true)
    (hv : Value.okWide P w r b0 t v) (h : DataW.Trod enc P w base spare held t v d p) :
    ∃ (v0 v1 v2 : Value) (z0 z1 y1 : DataW H × List MemPlace) (n m : Nat), v = .agg #[v0, v1, v2] ∧
      DataW.trod enc P w base spare held m g0.type [v0] = some z0 ∧ DataW.trod enc P w base spare held m g1.type [v1] = some z1 ∧ DataW.trod enc P w base spare held n f1.type [v2] = some y1 := by
  obtain ⟨cs, rfl, hsz⟩ := okWide_struct hs hv
  obtain ⟨c0, c1, c2, rfl⟩ := array3 (hsz.trans hC)
  obtain ⟨fuel, hf⟩ := h
  obtain ⟨y0, y1, n, hx, _, h0, h1⟩ := trod_struct2 hs hf
  have h0' : DataW.trod enc P w base spare held n f0.type [c0, c1] = some y0 := by simpa [Value.cells, o0, k0] using h0
  obtain ⟨z0, z1, m, hx2, _, q0, q1⟩ := trod_struct2 hg h0'
  obtain ⟨a0, b0'⟩ := hone_of hone 0 g0 rfl
  obtain ⟨a1, b1'⟩ := hone_of hone 1 g1 rfl
  exact ⟨c0, c1, c2, z0, z1, y1, n, m, rfl, by simpa [a0, b0'] using q0, by simpa [a1, b1'] using q1, by simpa [Value.cells, o1, k1] using h1⟩
end Go.Proofs.YtcikenffeekkeaaGreatDoor

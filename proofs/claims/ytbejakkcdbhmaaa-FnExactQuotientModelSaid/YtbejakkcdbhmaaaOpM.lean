/- An argument's datum that is a struct within a struct (a Model), opened. -/
import Derived.Test.YtbejakkcdbhmaaaOpen
namespace Go.Proofs.Ytbejakkcdbhmaaa
open Go.ChangeShapes Go.WideShapes Go.ChangeAt Go.RowKit Go.Joins Go.Deep Go.Lib
set_option linter.unusedVariables false
theorem open_nest {H : Type} {enc : TypeId × Value → H} {P : Program} {w : World} {base : Nat} {spare : Nat → Bool} {held : Bool} {r : Reach} {b0 : Nat} {t : TypeId} {f0 f1 g0 g1 : Field} {v : Value} {d : DataW H} {p : List MemPlace}
    (hs : P.underlying t = some (.struct #[f0, f1])) (hg : P.underlying f0.type = some (.struct #[g0, g1])) (hC : P.cellsOf t = 3)
    (o0 : f0.offset = 0) (k0 : P.cellsOf f0.type = 2) (o1 : f1.offset = 2) (k1 : P.cellsOf f1.type = 1) (hone : oneCellFields P #[g0, g1] = true)
    (hv : Value.okWide P w r b0 t v) (h : DataW.Trod enc P w base spare held t v d p) :
    ∃ (v0 v1 v2 : Value) (z0 z1 y1 : DataW H × List MemPlace) (n m : Nat), v = .agg #[v0, v1, v2] ∧
      DataW.trod enc P w base spare held m g0.type [v0] = some z0 ∧ DataW.trod enc P w base spare held m g1.type [v1] = some z1 ∧ DataW.trod enc P w base spare held n f1.type [v2] = some y1 := by
  obtain ⟨cs, rfl, hsz⟩ := okWide_struct hs hv
  obtain ⟨c0, c1, c2, rfl⟩ := array3 (hsz.trans hC)
  obtain ⟨fuel, hf⟩ := h
  obtain ⟨y0, y1, n, hx, _, h0, h1⟩ := trod_struct2 hs hf
  have h0' : DataW.trod enc P w base spare held n f0.type [c0, c1] = some y0 := by simpa [Value.cells, o0, k0] using h0
  obtain ⟨z0, z1, m, hx2, _, q0, q1⟩ := trod_struct2 hg h0'
  obtain ⟨a0, b0'⟩ := hone_of hone 0 g0 rfl
  obtain ⟨a1, b1'⟩ := hone_of hone 1 g1 rfl
  exact ⟨c0, c1, c2, z0, z1, y1, n, m, rfl, by simpa [a0, b0'] using q0, by simpa [a1, b1'] using q1, by simpa [Value.cells, o1, k1] using h1⟩
end Go.Proofs.Ytbejakkcdbhmaaa

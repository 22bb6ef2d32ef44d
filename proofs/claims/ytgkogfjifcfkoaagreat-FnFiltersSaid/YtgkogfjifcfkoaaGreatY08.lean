/- Joined of several texts: M07m, AN, 07j, 07l. -/
import Derived.Test.YtgkogfjifcfkoaaGreatY01
import Derived.Test.YtgkogfjifcfkoaaGreatY07
import Derived.Test.YtgkogfjifcfkoaaGreatY05
import Derived.Maps.OwnSet
import Derived.Maps.OwnOps
namespace Go.Proofs.YtgkogfjifcfkoaaGreat
open Go.RowKit
set_option linter.unusedVariables false
set_option linter.unusedSimpArgs false
/- A map from int64 to int64 that the call makes, in words of a finite function: what the walk of divided wants. -/
open Go.RowKit Go.Maps
theorem keyI : Keyed Tryz.prog 2 := int_keyed Tryz.underlying2
theorem zeroI (w : World) : (zeroValue 2).run Tryz.prog w = .ok (.int .i64 0) w := by kernel_rfl
theorem wf_i64 {a : Int} (h : -9223372036854775808 ≤ a ∧ a ≤ 9223372036854775807) : (Lit.int .i64 a).wf = true := WalkArith.wf_i64 (by omega)
theorem key_i64 {a : Nat} (h : a < 256) : keyOf Tryz.prog 2 (.int .i64 (a : Int)) = some (.int .i64 (a : Int)) := keyOf_int_mk Tryz.underlying2 (wf_i64 (by omega))
/-- block M is a map of c entries that is f -/
def Mp (w : World) (M : Nat) (f : Nat → Option Nat) (c : Nat) : Prop :=
  ∃ (n : Nat) (D : DataW Unit), n ≤ c ∧ w.ownsMap Tryz.prog 2 (plainElem Tryz.prog 2) M n D ∧ Maps.size D = c ∧
    ∀ a : Nat, a < 256 → Maps.has D (.int .i64 (a : Int)) = (f a).isSome ∧ ∀ x, f a = some x → D.atKey (.int .i64 (a : Int)) (.lit (.int .i64 0)) = .lit (.int .i64 (x : Int))
theorem Mp.made (w : World) : Mp (w.alloc (.map #[] 0)) w.heap.size (fun _ => none) 0 :=
  ⟨0, .map [], Nat.le_refl _, World.ownsMap_made w _ _ _, rfl, fun a _ => ⟨rfl, fun x hx => by cases hx⟩⟩
theorem Mp.lt {w : World} {M : Nat} {f : Nat → Option Nat} {c : Nat} (h : Mp w M f c) : M < w.heap.size := by
  obtain ⟨n, D, -, h, -⟩ := h
  exact h.lt
theorem Mp.grown {w w' : World} {row : Option Nat} {M : Nat} {f : Nat → Option Nat} {c : Nat} (h : Mp w M f c) (hg : w.grownBy w' row) (hne : some M ≠ row) : Mp w' M f c := by
  obtain ⟨n, D, h1, h2, h3⟩ := h
  exact ⟨n, D, h1, h2.kept hg hne, h3⟩
theorem Mp.setCell {w : World} {M : Nat} {f : Nat → Option Nat} {c : Nat} (h : Mp w M f c) {p : Addr} (hp : M ≠ p.block) (u : Value) : Mp (w.setCell p u) M f c := by
  obtain ⟨n, D, h1, h2, h3⟩ := h
  exact ⟨n, D, h1, h2.setCell hp u, h3⟩
theorem Mp.drew {w : World} {M : Nat} {f : Nat → Option Nat} {c : Nat} (h : Mp w M f c) : Mp w.drew M f c := h
theorem Mp.ok {w : World} {M : Nat} {f : Nat → Option Nat} {c : Nat} (h : Mp w M f c) {a : Nat} (ha : a < 256) :
    ∃ x : Int, (Instr.lookup 150 (.map (some M)) (.int .i64 (a : Int)) true).run Tryz.prog w = .ok (.tuple #[.int .i64 x, .bool (f a).isSome]) w := by
  obtain ⟨n, D, h1, h2, h3, h4⟩ := h
  obtain ⟨v, ps, hrun, hv⟩ := h2.look_ok keyI Tryz.underlying150 (zeroI w) (plainElem_int Tryz.underlying2 (wf_i64 (by decide))) (key_i64 ha)
  obtain ⟨x, rfl, -, -⟩ := plainElem_int_inv Tryz.underlying2 hv
  exact ⟨x, by rw [← (h4 a ha).1]; exact hrun⟩
theorem Mp.get {w : World} {M : Nat} {f : Nat → Option Nat} {c : Nat} (h : Mp w M f c) {a x : Nat} (ha : a < 256) (hx : f a = some x) :
    (Instr.lookup 150 (.map (some M)) (.int .i64 (a : Int)) false).run Tryz.prog w = .ok (.int .i64 (x : Int)) w := by
  obtain ⟨n, D, h1, h2, h3, h4⟩ := h
  obtain ⟨y, hrun, hat, -⟩ := h2.lookup_int keyI Tryz.underlying150 Tryz.underlying2 (zeroI w) (key_i64 ha)
  rw [(h4 a ha).2 x hx] at hat
  have hat2 : (x : Int) = y := by simpa using hat
  rw [hat2]
  exact hrun
theorem Mp.len {w : World} {M : Nat} {f : Nat → Option Nat} {c : Nat} (h : Mp w M f c) (ty : TypeId) : (Builtin.len_ #[150] ty #[.map (some M)]).run Tryz.prog w = .ok (.int .i64 (c : Int)) w := by
  obtain ⟨n, D, h1, h2, h3, h4⟩ := h
  have := h2.len Tryz.underlying150 ty
  rwa [h3] at this
theorem Mp.put {w : World} {M : Nat} {f : Nat → Option Nat} {c : Nat} (h : Mp w M f c) (hc : c ≤ 255) {a : Nat} (ha : a < 256) (hn : f a = none) {x : Nat} (hx : x < 256) :
    ∃ w', (Instr.mapUpdate 150 (.map (some M)) (.int .i64 (a : Int)) (.int .i64 (x : Int))).run Tryz.prog w = .ok () w' ∧ Mp w' M (fun b => if b = a then some x else f b) (c + 1) ∧ w.grownBy w' (some M) := by
  obtain ⟨n, D, h1, h2, h3, h4⟩ := h
  obtain ⟨w', hrun, hown, hg⟩ := h2.update keyI Tryz.underlying150 (by unfold maxLen; omega) (key_i64 ha) (plainElem_int Tryz.underlying2 (wf_i64 (a := (x : Int)) (by omega)))
  refine ⟨w', hrun, ⟨n + 1, _, by omega, hown, ?_, fun b hb => ?_⟩, hg⟩
  · rw [size_put (h2.tidy keyI), (h4 a ha).1, hn, h3]; rfl
  · by_cases he : b = a
    · subst he
      refine ⟨by rw [has_put_same h2.isMap (by trivial)]; simp, fun y hy => ?_⟩
      dsimp only at hy
      rw [if_pos rfl] at hy
      have hy2 : x = y := Option.some.inj hy
      rw [atKey_put_same h2.isMap (by trivial), hy2]
    · have hne : Lit.int .i64 (b : Int) ≠ Lit.int .i64 (a : Int) := fun e => by injection e with _ e; exact he (by omega)
      refine ⟨by rw [has_put_other hne, (h4 b hb).1]; dsimp only; rw [if_neg he], fun y hy => ?_⟩
      dsimp only at hy
      rw [if_neg he] at hy
      rw [atKey_put_other hne]
      exact (h4 b hb).2 y hy
/- Joined of several texts: 07n, 07o, 07p. -/
/- Contracts of chapter 7, of the program: a partition's add. -/
/- Contracts of chapter 7, of the program: a partition's add, at a new key. -/
/- Contracts of chapter 7, of the program: divided. -/
/- Contracts of chapter 7, of the reference: l07Classes, BisimulationClasses. -/
/-- the classes of a model's worlds -/
def bcl (ns us : List Nat) (x : Nat) : List Nat × Nat := dvd (fun y => (bnd ns us ns us 16).getD y 0) x
theorem find_first {p : Nat → Bool} {x j : Nat} (hj : j < x) (h : p j = true) (hn : ∀ i, i < j → p i = false) : (List.range x).find? p = some j := by
  rw [List.find?_eq_some_iff_append]
  refine ⟨h, List.range j, (List.range (x - (j + 1))).map (fun i => j + 1 + i), ?_, fun a ha => by rw [List.mem_range] at ha; rw [hn a ha]; rfl⟩
  rw [show x = (j + 1) + (x - (j + 1)) by omega, List.range_add, List.range_succ]
  simp
/- Contracts of BisimulationClasses, of the program: arguments that are no model. -/
end Go.Proofs.YtgkogfjifcfkoaaGreat

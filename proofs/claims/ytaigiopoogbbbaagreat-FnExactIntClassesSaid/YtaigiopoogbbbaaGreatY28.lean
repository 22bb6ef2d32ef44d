/- A map from texts to bools that the call makes, in words of a finite function. -/
import Derived.Test.YtaigiopoogbbbaaGreatY25
import Derived.Maps.OwnSet
import Derived.Maps.OwnOps
namespace Go.Proofs.YtaigiopoogbbbaaGreat
open Go.RowKit Go.Maps
set_option linter.unusedVariables false
set_option linter.unusedSimpArgs false
theorem keySB : Keyed Tryz.prog 9 := string_keyed Tryz.underlying9
theorem zeroB (w : World) : (zeroValue 4).run Tryz.prog w = .ok (.bool false) w := by kernel_rfl
theorem key_tx {a : ByteArray} (h : a.size ≤ 9000000000) : keyOf Tryz.prog 9 (.string a) = some (.string a.data.toList) := WideMaps.keyOf_string_mk Tryz.underlying9 (by unfold maxLen; omega)
theorem plainElem_bool_invI {P : Program} {e : TypeId} (he : P.underlying e = some .bool) {v : Value} {z : DataW Unit × List MemPlace} (h : plainElem P e v = some z) : ∃ x, v = .bool x ∧ z = (.lit (.bool x), []) := by
  unfold plainElem at h
  split at h
  · cases h; exact ⟨_, rfl, rfl⟩
  · rename_i h1; rw [he] at h1; cases h1
  · rename_i h1; rw [he] at h1; cases h1
  · cases h
/-- block M is a map that is f; it has been changed c times at most -/
def MpB (w : World) (M : Nat) (f : ByteArray → Option Bool) (c : Nat) : Prop :=
  ∃ (n : Nat) (D : DataW Unit), n ≤ c ∧ w.ownsMap Tryz.prog 9 (plainElem Tryz.prog 4) M n D ∧
    ∀ a : ByteArray, Maps.has D (.string a.data.toList) = (f a).isSome ∧ ∀ x, f a = some x → D.atKey (.string a.data.toList) (.lit (.bool false)) = .lit (.bool x)
theorem MpB.made (w : World) : MpB (w.alloc (.map #[] 0)) w.heap.size (fun _ => none) 0 :=
  ⟨0, .map [], Nat.le_refl _, World.ownsMap_made w _ _ _, fun a => ⟨rfl, fun x hx => by cases hx⟩⟩
theorem lit_boolI {x y : Bool} (h : (DataW.lit (.bool y) : DataW Unit) = .lit (.bool x)) : y = x := by simpa using h
set_option maxRecDepth 100000
section
variable {w w' : World} {M : Nat} {f : ByteArray → Option Bool} {c : Nat}
theorem MpB.lt (h : MpB w M f c) : M < w.heap.size := by
  obtain ⟨n, D, -, h, -⟩ := h
  exact h.lt
theorem MpB.grown {row : Option Nat} (h : MpB w M f c) (hg : w.grownBy w' row) (hne : some M ≠ row) : MpB w' M f c := by
  obtain ⟨n, D, h1, h2, h3⟩ := h
  exact ⟨n, D, h1, h2.kept hg hne, h3⟩
theorem MpB.setCell (h : MpB w M f c) {p : Addr} (hp : M ≠ p.block) (u : Value) : MpB (w.setCell p u) M f c := by
  obtain ⟨n, D, h1, h2, h3⟩ := h
  exact ⟨n, D, h1, h2.setCell hp u, h3⟩
theorem MpB.drew (h : MpB w M f c) : MpB w.drew M f c := h
theorem MpB.ok (h : MpB w M f c) {a : ByteArray} (ha : a.size ≤ 9000000000) :
    ∃ x : Bool, (Instr.lookup 74 (.map (some M)) (.string a) true).run Tryz.prog w = .ok (.tuple #[.bool x, .bool (f a).isSome]) w ∧ ∀ y, f a = some y → x = y := by
  obtain ⟨n, D, h1, h2, h4⟩ := h
  obtain ⟨v, ps, hrun, hv⟩ := h2.look_ok keySB Tryz.underlying74 (zeroB w) (plainElem_bool Tryz.underlying4 false) (key_tx ha)
  obtain ⟨x, rfl, hz⟩ := plainElem_bool_invI Tryz.underlying4 hv
  refine ⟨x, by rw [← (h4 a).1]; exact hrun, fun y hy => ?_⟩
  have h5 := (h4 a).2 y hy
  have h6 : D.atKey (.string a.data.toList) (.lit (.bool false)) = .lit (.bool x) := congrArg Prod.fst hz
  have h7 := h5.symm.trans h6
  exact (lit_boolI h7).symm
theorem MpB.put (h : MpB w M f c) (hc : c < 9223372036854775807) {a : ByteArray} (ha : a.size ≤ 9000000000) (x : Bool) :
    ∃ w', (Instr.mapUpdate 74 (.map (some M)) (.string a) (.bool x)).run Tryz.prog w = .ok () w' ∧ MpB w' M (fun b => if b = a then some x else f b) (c + 1) ∧ w.grownBy w' (some M) := by
  obtain ⟨n, D, h1, h2, h4⟩ := h
  obtain ⟨w', hrun, hown, hg⟩ := h2.update keySB Tryz.underlying74 (by unfold maxLen; omega) (key_tx ha) (plainElem_bool Tryz.underlying4 x)
  refine ⟨w', hrun, ⟨n + 1, _, by omega, hown, fun b => ?_⟩, hg⟩
  by_cases he : b = a
  · subst he
    refine ⟨by rw [has_put_same h2.isMap (by trivial)]; simp, fun y hy => ?_⟩
    dsimp only at hy
    rw [if_pos rfl] at hy
    have hy2 : x = y := Option.some.inj hy
    rw [atKey_put_same h2.isMap (by trivial), hy2]
  · have hne : Lit.string b.data.toList ≠ Lit.string a.data.toList := fun e => by
      injection e with e
      apply he
      obtain ⟨⟨b⟩⟩ := b
      obtain ⟨⟨a⟩⟩ := a
      simp at e
      rw [e]
    refine ⟨by rw [has_put_other hne, (h4 b).1]; dsimp only; rw [if_neg he], fun y hy => ?_⟩
    dsimp only at hy
    rw [if_neg he] at hy
    rw [atKey_put_other hne]
    exact (h4 b).2 y hy
end
end Go.Proofs.YtaigiopoogbbbaaGreat

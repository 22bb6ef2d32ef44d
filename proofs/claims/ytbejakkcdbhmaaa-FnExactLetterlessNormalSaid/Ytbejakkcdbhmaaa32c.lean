/- Contracts of ChainFrame, of the program and of the reference. -/
import Derived.Test.Ytbejakkcdbhmaaa01
namespace Go.Proofs.Ytbejakkcdbhmaaa
open Go.RowKit
set_option linter.unusedVariables false
set_option linter.unusedSimpArgs false
theorem impl_frameOf (v : Value) (xs : List Int) (w : World) (h : Sl cI w v xs) :
    Calls Try.prog 237 #[v] w fun e w' => e = .returned (.agg #[.int .i64 xs.length, v]) ∧ Below w.heap.size w w' := by
  obtain ⟨A, c, rfl⟩ := h.opn
  go_enter Try.func237, Try.ntmps237
  go_wp2_with fail
  refine (impl_size_int64 _ xs _ (h.alloc _)).mono ?_
  rintro e w1 ⟨rfl, rfl⟩
  go_wp2
  refine bodyPost_ret (v := .agg #[.int .i64 xs.length, .slice A xs.length c]) (by simp [results, Try.results237, go_sem]) rfl ⟨rfl, ?_⟩
  repeat (first | exact Below.refl _ _ | refine Below.alloc ?_ (by simp <;> omega) _ | refine below_drewN ?_ _)
theorem spec_l01Own (v : Value) (xs : List Int) (w : World) (h : Sl cI w v xs) (hl : xs.length ≤ 1073741824) :
    Calls Try.prog 153 #[v] w fun e w' => ∃ u, e = .returned u ∧ Ow cI 2 w.heap.size w' u xs ∧ Below w.heap.size w w' := by
  obtain ⟨A, c, rfl⟩ := h.opn
  go_enter Try.func153, Try.ntmps153
  go_wp2_with (at_builtin; refine stopHere ?_)
  refine goHere ?_
  refine ap_sl (K := cI) _ ty_int64 rfl _ _ rfl rfl rfl (B := w.heap.size) (xs := []) (news := xs) (Ow.lit [] rfl rfl (Nat.le_refl _)) (h.alloc _) (by simp <;> omega) (by simp) ?_
  intro v1 w1 ho hg hb hat
  have hb' : Below w.heap.size w w1 := ((Below.refl _ _).alloc (Nat.le_refl _) _).trans hb
  have O := Lib.hid ho; clear ho hg hb hat
  go_wp2
  go_ret
  exact ⟨_, rfl, O.out, hb'⟩
theorem slices_Clone_int64 (v : Value) (xs : List Int) (w : World) (h : Sl cI w v xs) (hl : xs.length ≤ 1073741824) :
    Calls Try.prog 156 #[v] w fun e w' => ∃ u, e = .returned u ∧ Ow cI 2 w.heap.size w' u xs ∧ Below w.heap.size w w' := by
  obtain ⟨A, c, rfl⟩ := h.opn
  by_cases hA : A = none
  · subst hA
    obtain rfl := h.none_nil
    have hq := fun W : World => Lib.run_eql_slice_nil (P := Try.prog) W 31 2 none 0 c 0 0 Try.underlying31
    go_enter Try.func156, Try.ntmps156
    go_wp2_with (at_builtin; refine stopHere ?_)
    go_ret
    exact ⟨_, rfl, Ow.nil _ _, Below.refl _ _⟩
  · obtain ⟨ad, rfl⟩ := Option.ne_none_iff_exists'.1 hA
    clear hA
    have hq := fun W : World => Lib.run_eql_slice_nil (P := Try.prog) W 31 2 (some ad) xs.length c 0 0 Try.underlying31
    go_enter Try.func156, Try.ntmps156
    go_wp2_with (at_builtin; refine stopHere ?_)
    refine goHere ?_
    refine ap_sl (K := cI) _ ty_int64 rfl _ _ rfl rfl rfl (B := w.heap.size) (xs := []) (news := xs) (Ow.lit [] rfl rfl (Nat.le_refl _)) (h.alloc _) (by simp <;> omega) (by simp) ?_
    intro v1 w1 ho hg hb hat
    have hb' : Below w.heap.size w w1 := ((Below.refl _ _).alloc (Nat.le_refl _) _).trans hb
    have O := Lib.hid ho; clear ho hg hb hat
    go_wp2
    go_ret
    exact ⟨_, rfl, O.out, hb'⟩
theorem spec_l05Make (v : Value) (xs : List Int) (w : World) (h : Sl cI w v xs) (hl : xs.length ≤ 1073741824) :
    Calls Try.prog 244 #[v] w fun e w' => ∃ u, e = .returned (.agg #[.int .i64 xs.length, u]) ∧ Ow cI 2 w.heap.size w' u xs ∧ Below w.heap.size w w' := by
  obtain ⟨A, c, rfl⟩ := h.opn
  go_enter Try.func244, Try.ntmps244
  go_wp2_with fail
  refine (spec_l01Own _ xs _ (h.alloc _) hl).mono ?_
  rintro e w1 ⟨u, rfl, ho, hb⟩
  obtain ⟨A', c', rfl⟩ := ho.opn
  obtain ⟨k1, k2, k3⟩ := kept_blk hb
  have O := Lib.hid ho; clear ho
  have HB := Lib.hid hb; clear hb
  go_wp2
  refine bodyPost_ret (v := .agg #[.int .i64 xs.length, .slice A' xs.length c']) (by simp [results, Try.results244, go_sem, k1, k2, k3]) rfl ⟨_, rfl, ?_, ?_⟩
  · exact ((O.out.setBelow (by simp) _).setBelow (by simp) _).mono (by simp)
  · exact ((((Below.refl _ _).alloc (Nat.le_refl _) _).trans (HB.out.mono (by simp))).setCell (Nat.le_refl _) _).setCell (Nat.le_refl _) _
/-- the arrows of a chain -/
def chL (n : Nat) : List Int := (List.range n).map fun w => (2 : Int) ^ w - 1
theorem chL_length (n : Nat) : (chL n).length = n := by simp [chL]
theorem chL_snoc (n : Nat) : chL (n + 1) = chL n ++ [2 ^ n - 1] := by simp [chL, List.range_succ]
/-- what ChainFrame says: the frame's arrows, and the code -/
def chOk (n : Int) : Bool := inR n 0 8
end Go.Proofs.Ytbejakkcdbhmaaa

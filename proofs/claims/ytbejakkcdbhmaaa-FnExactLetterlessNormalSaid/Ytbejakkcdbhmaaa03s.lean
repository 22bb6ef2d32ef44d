/- Contracts of the reference's builders of formulas: l02False, l02Pre, l02Pair, l02Not, l32Boxes, l32Rank, l02Made. -/
import Derived.Test.Ytbejakkcdbhmaaa32x
import Derived.Test.YtbejakkcdbhmaaaLN
namespace Go.Proofs.Ytbejakkcdbhmaaa
open Go.RowKit
set_option linter.unusedVariables false
set_option linter.unusedSimpArgs false
def boxesL (n : Nat) : List Nd := List.replicate n (5, 0) ++ [(1, 0)]
theorem boxesL_succ (n : Nat) : boxesL (n + 1) = (5, 0) :: boxesL n := by simp [boxesL, List.replicate_succ]
theorem boxesL_length (n : Nat) : (boxesL n).length = n + 1 := by simp [boxesL]
def rankL (n : Nat) : List Nd := if n = 0 then boxesL 1 else [(2, 0)] ++ boxesL (n + 1) ++ ([(4, 0)] ++ boxesL n ++ [(1, 0)])
theorem spec_l02False (w : World) :
    Calls Try.prog 190 #[] w fun e w' => ∃ u, e = .returned u ∧ Ow cN 95 w.heap.size w' u [(1, 0)] ∧ Below w.heap.size w w' := by
  go_enter Try.func190, Try.ntmps190
  go_wp2
  go_ret
  exact ⟨_, rfl, Ow.lit [(1, 0)] rfl rfl (Nat.le_refl _), (Below.refl _ _).alloc (Nat.le_refl _) _⟩
theorem spec_l02Pre (k : Int) (v : Value) (xs : List Nd) (w : World) (h : Sl cN w v xs) (hl : xs.length ≤ 1048576) :
    Calls Try.prog 75 #[.int .i64 k, v] w fun e w' => ∃ u, e = .returned u ∧ Ow cN 95 w.heap.size w' u ((k, 0) :: xs) ∧ Below w.heap.size w w' := by
  obtain ⟨A, c, rfl⟩ := h.opn
  have H := Lib.hid h; clear h
  go_enter Try.func75, Try.ntmps75
  go_wp2_with (at_builtin; refine stopHere ?_)
  refine goHere ?_
  refine ap_sl (K := cN) _ ty_node rfl _ _ rfl rfl rfl (B := w.heap.size) (xs := [(k, 0)]) (news := xs) (Ow.lit [(k, 0)] rfl rfl (Nat.le_refl _)) (H.out.alloc _) (by simp <;> omega) (by simp) ?_
  intro v1 w1 ho hg hb hat
  have hb' : Below w.heap.size w w1 := ((Below.refl _ _).alloc (Nat.le_refl _) _).trans hb
  have O := Lib.hid ho; clear ho hg hb hat
  go_wp2
  go_ret
  exact ⟨_, rfl, O.out, hb'⟩
theorem spec_l02Pair (k : Int) (v u : Value) (xs ys : List Nd) (w : World) (h : Sl cN w v xs) (h' : Sl cN w u ys) (hl : xs.length ≤ 1048576) (hl' : ys.length ≤ 1048576) :
    Calls Try.prog 76 #[.int .i64 k, v, u] w fun e w' => ∃ r, e = .returned r ∧ Ow cN 95 w.heap.size w' r ([(k, 0)] ++ xs ++ ys) ∧ Below w.heap.size w w' := by
  obtain ⟨A, c, rfl⟩ := h.opn
  obtain ⟨B, d, rfl⟩ := h'.opn
  have H := Lib.hid h; clear h
  have H' := Lib.hid h'; clear h'
  go_enter Try.func76, Try.ntmps76
  go_wp2_with (at_builtin; refine stopHere ?_)
  refine goHere ?_
  refine ap_sl (K := cN) _ ty_node rfl _ _ rfl rfl rfl (B := w.heap.size) (xs := [(k, 0)]) (news := xs) (Ow.lit [(k, 0)] rfl rfl (Nat.le_refl _)) (H.out.alloc _) (by simp <;> omega) (by simp) ?_
  intro v1 w1 ho hg hb hat
  have hb' : Below w.heap.size w w1 := ((Below.refl _ _).alloc (Nat.le_refl _) _).trans hb
  have O := Lib.hid ho; clear ho hg hb hat
  have hsz := hb'.size
  have HB := Lib.hid hb'; clear hb'
  obtain ⟨A1, c1, rfl⟩ := O.out.opn
  go_wp2_with (at_builtin; refine stopHere ?_)
  refine goHere ?_
  refine ap_sl (K := cN) _ ty_node rfl _ _ rfl rfl rfl (B := w.heap.size) (xs := [(k, 0)] ++ xs) (news := ys) O.out (H'.out.below HB.out) (by simp <;> omega) (by omega) ?_
  intro v2 w2 ho hg hb hat
  have hb' : Below w.heap.size w w2 := HB.out.trans hb
  have O2 := Lib.hid ho; clear ho hg hb hat
  go_wp2
  go_ret
  exact ⟨_, rfl, O2.out, hb'⟩
theorem spec_l02Not (v : Value) (xs : List Nd) (w : World) (h : Sl cN w v xs) (hl : xs.length ≤ 1048576) :
    Calls Try.prog 196 #[v] w fun e w' => ∃ r, e = .returned r ∧ Ow cN 95 w.heap.size w' r ([(4, 0)] ++ xs ++ [(1, 0)]) ∧ Below w.heap.size w w' := by
  obtain ⟨A, c, rfl⟩ := h.opn
  have H := Lib.hid h; clear h
  go_enter Try.func196, Try.ntmps196
  go_wp2_with fail
  refine (spec_l02False _).mono ?_
  rintro e w1 ⟨u, rfl, ho, hb⟩
  have HB := Lib.hid hb
  have O := Lib.hid ho
  clear ho hb
  go_wp2_with fail
  refine (spec_l02Pair 4 _ _ _ _ _ (H.out.below HB.out) O.out.sl hl (by simp)).mono ?_
  rintro e w2 ⟨r, rfl, ho, hb⟩
  have HB2 := Lib.hid (bthen HB.out hb)
  have hz := HB.out.size
  have O2 := Lib.hid ho
  clear ho hb
  go_wp2
  go_ret
  exact ⟨_, rfl, O2.out.mono (by omega), HB2.out⟩
theorem spec_l32Boxes (n : Nat) (w : World) (hn : n ≤ 1048576) :
    Calls Try.prog 253 #[.int .i64 n] w fun e w' => ∃ u, e = .returned u ∧ Ow cN 95 w.heap.size w' u (boxesL n) ∧ Below w.heap.size w w' := by
  go_enter Try.func253, Try.ntmps253
  go_wp2_with fail
  refine (spec_l02False _).mono ?_
  rintro e w1 ⟨u, rfl, ho, hb⟩
  have HB := Lib.hid hb
  have O := Lib.hid ho
  clear ho hb
  go_wp2
  go_loopw [0, 3] (fun i v wr => ∃ k : Nat, k ≤ n ∧ i = .int .i64 ((n - k : Nat) : Int) ∧ Ow cN 95 w.heap.size wr v (boxesL k) ∧ Below w.heap.size w wr) (fun i _ _ => (intOf i).toNat)
  case atStart => exact ⟨0, Nat.zero_le _, rfl, O.out, HB.out⟩
  case round =>
    obtain ⟨k, hk, rfl, ho, hb⟩ := hrel
    have HO := Lib.hid ho
    have HW := Lib.hid hb
    have hz := hb.size
    clear ho hb
    obtain ⟨m, hm⟩ : ∃ m, n - k = m := ⟨_, rfl⟩
    rw [hm]
    by_cases hlt : 0 < m
    · go_wp2_with fail
      refine (spec_l02Pre 5 _ _ _ HO.out.sl (by rw [boxesL_length]; omega)).mono ?_
      rintro e w2 ⟨r, rfl, ho, hb⟩
      have HW2 := Lib.hid (bthen HW.out hb)
      have O2 := Lib.hid ho
      clear ho hb
      go_wp2
      go_roundw
      case rel => exact ⟨k + 1, by omega, by rw [show n - (k + 1) = m - 1 by omega]; go_num, by rw [boxesL_succ]; exact O2.out.mono (by omega), HW2.out⟩
      case measure => simp [intOf]; omega
    · obtain rfl : m = 0 := by omega
      obtain rfl : k = n := by omega
      go_wp2
      go_ret
      exact ⟨_, rfl, HO.out, HW.out⟩
end Go.Proofs.Ytbejakkcdbhmaaa

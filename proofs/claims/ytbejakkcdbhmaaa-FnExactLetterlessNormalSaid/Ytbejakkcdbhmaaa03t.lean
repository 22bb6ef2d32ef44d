/- Contracts of the reference's l32Rank, l02Made, RankFormula. -/
import Derived.Test.Ytbejakkcdbhmaaa03s
namespace Go.Proofs.Ytbejakkcdbhmaaa
open Go.RowKit
set_option linter.unusedVariables false
set_option linter.unusedSimpArgs false
theorem rankL_zero : rankL 0 = boxesL 1 := rfl
theorem rankL_pos {n : Nat} (h : n ≠ 0) : rankL n = [(2, 0)] ++ boxesL (n + 1) ++ ([(4, 0)] ++ boxesL n ++ [(1, 0)]) := if_neg h
theorem rankL_length (n : Nat) : (rankL n).length ≤ 2 * n + 6 := by
  by_cases h : n = 0
  · subst h; rw [rankL_zero, boxesL_length]; omega
  · rw [rankL_pos h]; simp [boxesL_length]; omega
theorem spec_l32Rank (n : Nat) (w : World) (hn : n ≤ 1024) :
    Calls Try.prog 195 #[.int .i64 n] w fun e w' => ∃ u, e = .returned u ∧ Ow cN 95 w.heap.size w' u (rankL n) ∧ Below w.heap.size w w' := by
  by_cases h : n = 0
  · subst h
    go_enter Try.func195, Try.ntmps195
    go_wp2_with fail
    refine (spec_l32Boxes 1 _ (by omega)).mono ?_
    rintro e w1 ⟨u, rfl, ho, hb⟩
    have HB := Lib.hid hb
    have O := Lib.hid ho
    clear ho hb
    go_wp2
    go_ret
    exact ⟨_, rfl, O.out, HB.out⟩
  · have hw : IntKind.i64.wrap ((n : Int) + 1) = ((n + 1 : Nat) : Int) := by rw [IntWalk.i64_in _ ⟨by omega, by omega⟩]; omega
    have HR := Lib.hid (rankL_pos h)
    have hq : ((n : Int) == 0) = false := by simpa using h
    clear h
    go_enter Try.func195, Try.ntmps195
    go_wp2_with fail
    refine (spec_l32Boxes (n + 1) _ (by omega)).mono ?_
    rintro e w1 ⟨u1, rfl, ho, hb⟩
    have HB := Lib.hid hb
    have O := Lib.hid ho
    clear ho hb
    go_wp2_with fail
    refine (spec_l32Boxes n _ (by omega)).mono ?_
    rintro e w2 ⟨u2, rfl, ho, hb⟩
    have O1 := Lib.hid (O.out.below hb)
    have HB1 := Lib.hid (bthen HB.out hb)
    have O2 := Lib.hid ho
    clear ho hb
    go_wp2_with fail
    refine (spec_l02Not _ _ _ O2.out.sl (by rw [boxesL_length]; omega)).mono ?_
    rintro e w3 ⟨u3, rfl, ho, hb⟩
    have O3 := Lib.hid (O1.out.below hb)
    have HB2 := Lib.hid (bthen HB1.out hb)
    have O4 := Lib.hid ho
    clear ho hb
    go_wp2_with fail
    refine (spec_l02Pair 2 _ _ _ _ _ O3.out.sl O4.out.sl (by rw [boxesL_length]; omega) (by simp [boxesL_length]; omega)).mono ?_
    rintro e w4 ⟨u4, rfl, ho, hb⟩
    have HB3 := Lib.hid (bthen HB2.out hb)
    have hz := HB2.out.size
    have O5 := Lib.hid ho
    clear ho hb
    go_wp2
    go_ret
    exact ⟨_, rfl, by rw [HR.out]; exact O5.out.mono hz, HB3.out⟩
theorem spec_l02Made_yes (v : Value) (xs : List Nd) (w : World) (h : Sl cN w v xs) (hl : xs.length ≤ 40) :
    Calls Try.prog 77 #[v] w fun e w' => e = .returned (.tuple #[v, .int .i64 0]) ∧ w = w' := by
  obtain ⟨A, c, rfl⟩ := h.opn
  clear h
  generalize xs.length = L at *
  go_enter Try.func77, Try.ntmps77
  go_wp2
  go_ret2
  exact ⟨rfl, rfl⟩
theorem spec_l02Made_no (v : Value) (xs : List Nd) (w : World) (h : Sl cN w v xs) (hl : 40 < xs.length) :
    Calls Try.prog 77 #[v] w fun e w' => e = .returned (.tuple #[.slice none 0 0, .int .i64 3]) ∧ w = w' := by
  obtain ⟨A, c, rfl⟩ := h.opn
  clear h
  generalize xs.length = L at *
  go_enter Try.func77, Try.ntmps77
  go_wp2
  go_ret2
  exact ⟨rfl, rfl⟩
/-- what is made of a list: it, or none and a code, if it is too long -/
def madeL (xs : List Nd) : List Nd := if xs.length ≤ 40 then xs else []
def madeC (xs : List Nd) : Int := if xs.length ≤ 40 then 0 else 3
theorem madeL_length (xs : List Nd) : (madeL xs).length ≤ 40 := by unfold madeL; split <;> simp_all
theorem spec_l02Made (v : Value) (xs : List Nd) (B : Nat) (w : World) (h : Ow cN 95 B w v xs) :
    Calls Try.prog 77 #[v] w fun e w' => ∃ u, e = .returned (.tuple #[u, .int .i64 (madeC xs)]) ∧ Ow cN 95 B w' u (madeL xs) ∧ w = w' := by
  unfold madeC madeL
  by_cases hl : xs.length ≤ 40
  · rw [if_pos hl, if_pos hl]
    exact (spec_l02Made_yes v xs w h.sl hl).mono fun e w' ⟨he, hw⟩ => ⟨v, he, hw ▸ h, hw⟩
  · rw [if_neg hl, if_neg hl]
    exact (spec_l02Made_no v xs w h.sl (by omega)).mono fun e w' ⟨he, hw⟩ => ⟨_, he, Ow.nil _ _, hw⟩
end Go.Proofs.Ytbejakkcdbhmaaa

/- l02All and joinAll at the empty list. -/
import Derived.Test.Ytbejakkcdbhmaaa03x
namespace Go.Proofs.Ytbejakkcdbhmaaa
open Go.RowKit
set_option linter.unusedVariables false
set_option linter.unusedSimpArgs false
def joinE (op : Int) : List Nd := if op = 2 then [(4, 0), (1, 0), (1, 0)] else [(1, 0)]
theorem spec_l02All_nil (op : Int) (v : Value) (w : World) (h : Sl2 cN w v []) :
    Calls Try.prog 197 #[.int .i64 op, v] w fun e w' => ∃ u, e = .returned u ∧ Ow cN 95 w.heap.size w' u (joinE op) ∧ Below w.heap.size w w' := by
  obtain ⟨A, c, rfl⟩ := h.opn
  simp only [List.length_nil]
  clear h
  by_cases ho : op = 2
  · subst ho
    go_enter Try.func197, Try.ntmps197
    go_wp2_with fail
    refine (spec_l02True _).mono ?_
    rintro e w1 ⟨u, rfl, ho, hb⟩
    have HB := Lib.hid hb
    have O := Lib.hid ho
    clear ho hb
    go_wp2
    go_ret
    exact ⟨_, rfl, O.out, HB.out⟩
  · have HE : Hid (joinE op = [(1, 0)]) := Lib.hid (if_neg ho)
    have hq : (op == 2) = false := by simpa using ho
    clear ho
    go_enter Try.func197, Try.ntmps197
    go_wp2_with fail
    refine (spec_l02False _).mono ?_
    rintro e w1 ⟨u, rfl, ho, hb⟩
    have HB := Lib.hid hb
    have O := Lib.hid ho
    clear ho hb
    go_wp2
    go_ret
    exact ⟨_, rfl, by rw [HE.out]; exact O.out, HB.out⟩
theorem impl_joinAll_nil (op : Int) (v : Value) (w : World) (h : Sl2 cN w v []) :
    Calls Try.prog 201 #[.int .i64 op, v] w fun e w' => ∃ u, e = .returned u ∧ Ow cN 95 w.heap.size w' u (joinE op) ∧ Below w.heap.size w w' := by
  obtain ⟨A, c, rfl⟩ := h.opn
  simp only [List.length_nil]
  clear h
  by_cases ho : op = 2
  · subst ho
    go_enter Try.func201, Try.ntmps201
    go_wp2_with fail
    refine (impl_truth _).mono ?_
    rintro e w1 ⟨u, rfl, ho, hb⟩
    have HB := Lib.hid hb
    have O := Lib.hid ho
    clear ho hb
    go_wp2
    go_ret
    exact ⟨_, rfl, O.out, HB.out⟩
  · have HE : Hid (joinE op = [(1, 0)]) := Lib.hid (if_neg ho)
    have hq : (op == 2) = false := by simpa using ho
    clear ho
    go_enter Try.func201, Try.ntmps201
    go_wp2_with fail
    refine (impl_falsum _).mono ?_
    rintro e w1 ⟨u, rfl, ho, hb⟩
    have HB := Lib.hid hb
    have O := Lib.hid ho
    clear ho hb
    go_wp2
    go_ret
    exact ⟨_, rfl, by rw [HE.out]; exact O.out, HB.out⟩
end Go.Proofs.Ytbejakkcdbhmaaa

/- Contracts of what FormulaOfTrace joins with: l02True, l02Own, truth, l02All. -/
import Derived.Test.Ytbejakkcdbhmaaa03u
namespace Go.Proofs.Ytbejakkcdbhmaaa
open Go.RowKit
set_option linter.unusedVariables false
set_option linter.unusedSimpArgs false
/-- the formula that joins all, by an operation -/
def joinL (op : Int) (xss : List (List Nd)) : List Nd := List.replicate (xss.length - 1) (op, 0) ++ xss.flatten
theorem joinL_one (op : Int) {xss : List (List Nd)} (h : 0 < xss.length) : joinL op (xss.take 1) = xss[0] := by
  cases xss with
  | nil => simp at h
  | cons x t => simp [joinL]
theorem joinL_succ (op : Int) {xss : List (List Nd)} {j : Nat} (h : j < xss.length) (hj : 0 < j) : joinL op (xss.take (j + 1)) = [(op, 0)] ++ joinL op (xss.take j) ++ xss[j] := by
  obtain ⟨i, rfl⟩ : ∃ i, j = i + 1 := ⟨j - 1, by omega⟩
  unfold joinL
  rw [flat_take_succ xss h, List.length_take, List.length_take, Nat.min_eq_left (by omega), Nat.min_eq_left (by omega)]
  simp [List.replicate_succ]
theorem joinL_length (op : Int) (xss : List (List Nd)) : (joinL op xss).length = xss.length - 1 + xss.flatten.length := by simp [joinL]
theorem spec_l02True (w : World) :
    Calls Try.prog 189 #[] w fun e w' => ∃ u, e = .returned u ∧ Ow cN 95 w.heap.size w' u [(4, 0), (1, 0), (1, 0)] ∧ Below w.heap.size w w' := by
  go_enter Try.func189, Try.ntmps189
  go_wp2_with fail
  refine (spec_l02False _).mono ?_
  rintro e w1 ⟨u, rfl, ho, hb⟩
  have HB := Lib.hid hb
  have O := Lib.hid ho
  clear ho hb
  go_wp2_with fail
  refine (spec_l02Not _ _ _ O.out.sl (by simp)).mono ?_
  rintro e w2 ⟨r, rfl, ho, hb⟩
  have HB2 := Lib.hid (bthen HB.out hb)
  have hz := HB.out.size
  have O2 := Lib.hid ho
  clear ho hb
  go_wp2
  go_ret
  exact ⟨_, rfl, O2.out.mono hz, HB2.out⟩
theorem spec_l02Own (v : Value) (xs : List Nd) (w : World) (h : Sl cN w v xs) (hl : xs.length ≤ 1048576) :
    Calls Try.prog 144 #[v] w fun e w' => ∃ u, e = .returned u ∧ Ow cN 95 w.heap.size w' u xs ∧ Below w.heap.size w w' := by
  obtain ⟨A, c, rfl⟩ := h.opn
  go_enter Try.func144, Try.ntmps144
  go_wp2_with (at_builtin; refine stopHere ?_)
  refine goHere ?_
  refine ap_sl (K := cN) _ ty_node rfl _ _ rfl rfl rfl (B := w.heap.size) (xs := []) (news := xs) (Ow.lit [] rfl rfl (Nat.le_refl _)) (h.alloc _) (by simp <;> omega) (by simp) ?_
  intro v1 w1 ho hg hb hat
  have hb' : Below w.heap.size w w1 := ((Below.refl _ _).alloc (Nat.le_refl _) _).trans hb
  have O := Lib.hid ho; clear ho hg hb hat
  go_wp2
  go_ret
  exact ⟨_, rfl, O.out, hb'⟩
theorem impl_truth (w : World) :
    Calls Try.prog 193 #[] w fun e w' => ∃ u, e = .returned u ∧ Ow cN 95 w.heap.size w' u [(4, 0), (1, 0), (1, 0)] ∧ Below w.heap.size w w' := by
  go_enter Try.func193, Try.ntmps193
  go_wp2
  go_ret
  exact ⟨_, rfl, Ow.lit [(4, 0), (1, 0), (1, 0)] rfl rfl (Nat.le_refl _), (Below.refl _ _).alloc (Nat.le_refl _) _⟩
theorem spec_l02All (op : Int) (v : Value) (xss : List (List Nd)) (w : World) (h : Sl2 cN w v xss) (h0 : 0 < xss.length) (hl : xss.length ≤ 262144) (hs : xss.flatten.length ≤ 262144) :
    Calls Try.prog 197 #[.int .i64 op, v] w fun e w' => ∃ u, e = .returned u ∧ Ow cN 95 w.heap.size w' u (joinL op xss) ∧ Below w.heap.size w w' := by
  obtain ⟨A, c, rfl⟩ := h.opn
  have H := Lib.hid h; clear h
  obtain ⟨b, o, Ai, ni, ci, rfl, hbl, hc0, hsj⟩ := H.out.at_ h0
  have HS := Lib.hid hsj
  simp only [Nat.add_zero] at hc0
  have h1 : xss[0].length ≤ 262144 := by
    have e := flat_take_succ xss h0
    have l := flat_take_le xss 1
    rw [e, List.length_append] at l
    omega
  have HJ := Lib.hid (joinL_one op h0)
  have hne : ((xss.length : Int) == 0) = false := beq_eq_false_iff_ne.2 (by omega)
  clear hsj
  go_enter Try.func197, Try.ntmps197
  go_wp2_with fail
  refine (spec_l02Own _ _ _ HS.out (by omega)).mono ?_
  rintro e w1 ⟨u, rfl, ho, hb⟩
  have HB := Lib.hid hb
  have O := Lib.hid ho
  clear ho hb hc0
  go_wp2
  go_loopw [5, 6] (fun v i wr => ∃ j : Nat, 0 < j ∧ j ≤ xss.length ∧ i = .int .i64 j ∧ Ow cN 95 w.heap.size wr v (joinL op (xss.take j)) ∧ Below w.heap.size w wr) (fun _ i _ => xss.length - (intOf i).toNat)
  case atStart => exact ⟨1, by omega, by omega, rfl, by rw [HJ.out]; exact O.out, HB.out⟩
  case round =>
    obtain ⟨j, hj0, hj, rfl, ho, hb⟩ := hrel
    have HO := Lib.hid ho
    have HW := Lib.hid hb
    have hz := hb.size
    clear ho hb
    by_cases hlt : j < xss.length
    · obtain ⟨b', o', Aj, nj, cj, hA, hbl', hcj, hsj⟩ := (H.out.below HW.out).at_ hlt
      injection hA with hA
      injection hA with e1 e2 _
      subst e1; subst e2
      have HSj := Lib.hid hsj
      have HT := Lib.hid (joinL_succ op hlt hj0)
      have h3 := congrArg List.length (flat_take_succ xss hlt)
      have h4 := flat_take_le xss (j + 1)
      rw [List.length_append] at h3
      have hb1 : (joinL op (xss.take j)).length ≤ 1048576 := by rw [joinL_length, List.length_take]; omega
      have hb2 : xss[j].length ≤ 1048576 := by omega
      have Hb1 := Lib.hid hb1; have Hb2 := Lib.hid hb2
      clear h3 h4 hsj hb1 hb2
      go_wp2_with fail
      refine (spec_l02Pair op _ _ _ _ _ HO.out.sl HSj.out Hb1.out Hb2.out).mono ?_
      rintro e w2 ⟨r, rfl, ho, hb⟩
      have HW2 := Lib.hid (bthen HW.out hb)
      have O2 := Lib.hid (ho.mono hz)
      clear ho hb
      go_wp2
      go_roundw
      case rel => exact ⟨j + 1, by omega, by omega, by go_num, by rw [HT.out]; exact O2.out, HW2.out⟩
      case measure => simp [intOf]; omega
    · obtain rfl : j = xss.length := by omega
      have HE : Hid (joinL op (xss.take xss.length) = joinL op xss) := Lib.hid (by rw [List.take_length])
      go_wp2
      go_ret
      exact ⟨_, rfl, by rw [← HE.out]; exact HO.out, HW.out⟩
end Go.Proofs.Ytbejakkcdbhmaaa

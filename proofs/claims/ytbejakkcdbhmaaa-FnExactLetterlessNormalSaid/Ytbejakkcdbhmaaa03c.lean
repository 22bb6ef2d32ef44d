/- Contract of slices.Concat at nodes. -/
import Derived.Test.Ytbejakkcdbhmaaa03g
namespace Go.Proofs.Ytbejakkcdbhmaaa
open Go.RowKit
set_option linter.unusedVariables false
set_option linter.unusedSimpArgs false
theorem flat_take_succ {α : Type} (xss : List (List α)) {j : Nat} (h : j < xss.length) : (xss.take (j + 1)).flatten = (xss.take j).flatten ++ xss[j] := by
  rw [List.take_succ_eq_append_getElem h, List.flatten_append]
  simp
theorem flat_take_le {α : Type} (xss : List (List α)) (j : Nat) : (xss.take j).flatten.length ≤ xss.flatten.length := by
  conv => rhs; rw [← List.take_append_drop j xss, List.flatten_append, List.length_append]
  omega
theorem slices_Concat_nodes (v : Value) (xss : List (List Nd)) (w : World) (h : Sl2 cN w v xss) (hl : xss.length ≤ 1048576) (hs : xss.flatten.length ≤ 1048576) :
    Calls Try.prog 149 #[v] w fun e w' => ∃ u, e = .returned u ∧ Ow cN 95 w.heap.size w' u xss.flatten ∧ Below w.heap.size w w' := by
  obtain ⟨A, c, rfl⟩ := h.opn
  have H := Lib.hid h; clear h
  go_enter Try.func149, Try.ntmps149
  go_wp2
  go_loop [3, 11] (fun s i => ∃ j : Nat, j ≤ xss.length ∧ i = .int .i64 j ∧ s = .int .i64 ((xss.take j).flatten.length : Nat)) (fun _ i => xss.length - (intOf i).toNat)
  case atStart => exact ⟨0, Nat.zero_le _, rfl, rfl⟩
  case round =>
    obtain ⟨j, hj, rfl, rfl⟩ := hrel
    by_cases hlt : j < xss.length
    · obtain ⟨b, o, Ai, ni, ci, rfl, hbl, hc0, hsj⟩ := H.out.at_ hlt
      obtain ⟨A', c', he⟩ := hsj.opn
      injection he with e1 e2 e3
      subst e1 e2 e3
      have h1 := congrArg List.length (flat_take_succ xss hlt)
      have h2 := flat_take_le xss (j + 1)
      rw [List.length_append] at h1
      obtain ⟨S, hS⟩ : ∃ S, (xss.take j).flatten.length = S := ⟨_, rfl⟩
      obtain ⟨T, hT⟩ : ∃ T, (xss.take (j + 1)).flatten.length = T := ⟨_, rfl⟩
      obtain ⟨M, hM⟩ : ∃ M, xss[j].length = M := ⟨_, rfl⟩
      rw [hS, hT, hM] at h1
      rw [hT] at h2
      rw [hM] at hc0
      rw [hS]
      have HT := Lib.hid hT
      have hb1 : S + M ≤ 1048576 := by omega
      have hw : IntKind.i64.wrap ((S : Int) + (M : Int)) = ((S + M : Nat) : Int) := by rw [IntWalk.i64_in _ ⟨by omega, by omega⟩]; omega
      have HTS := Lib.hid h1
      clear hS hT hM h1 h2 hsj
      go_wp2
      go_round
      case rel => exact ⟨j + 1, by omega, by go_num, by rw [HT.out, HTS.out, Int.natCast_add]⟩
      case measure => simp [intOf]; omega
    · obtain rfl : j = xss.length := by omega
      have h2 := flat_take_le xss xss.length
      obtain ⟨S, hS⟩ : ∃ S, (xss.take xss.length).flatten.length = S := ⟨_, rfl⟩
      rw [hS] at h2 ⊢
      clear hS
      have hS : S ≤ 1048576 := by omega
      clear h2
      go_wp2_with fail
      refine (slices_Grow_nil S _ hS).mono ?_
      rintro e w1 ⟨u, rfl, ho, hb⟩
      have O := Lib.hid ho
      have HB := Lib.hid hb
      clear ho hb
      go_wp2
      go_loopw [6, 27] (fun v i wr => ∃ j : Nat, j ≤ xss.length ∧ i = .int .i64 j ∧ Ow cN 95 w.heap.size wr v (xss.take j).flatten ∧ Below w.heap.size w wr) (fun _ i _ => xss.length - (intOf i).toNat)
      case atStart => exact ⟨0, Nat.zero_le _, rfl, O.out, HB.out⟩
      case round =>
        obtain ⟨j, hj, rfl, ho, hb⟩ := hrel
        have HO := Lib.hid ho
        have HW := Lib.hid hb
        have hz := hb.size
        clear ho hb
        by_cases hlt : j < xss.length
        · obtain ⟨b, o, Ai, ni, ci, rfl, hbl, hc0, hsj⟩ := (H.out.below HW.out).at_ hlt
          have HS := Lib.hid hsj
          have HT := Lib.hid (flat_take_succ xss hlt)
          have h1 := congrArg List.length (flat_take_succ xss hlt)
          have h2 := flat_take_le xss (j + 1)
          rw [List.length_append] at h1
          have hsum : ((xss.take j).flatten.length + xss[j].length) ≤ 1048576 := by omega
          clear h1 h2 hsj
          go_wp2_with (at_builtin; refine stopHere ?_)
          refine goHere ?_
          refine ap_sl (K := cN) _ ty_node rfl _ _ rfl rfl rfl (B := w.heap.size) (xs := (xss.take j).flatten) (news := xss[j]) HO.out HS.out (by omega) hz ?_
          intro v1 w2 ho hg hb hat
          have HW2 := Lib.hid (HW.out.trans hb)
          have O2 := Lib.hid ho
          clear ho hg hb hat hsum
          go_wp2
          go_roundw
          case rel => exact ⟨j + 1, by omega, by go_num, by rw [HT.out]; exact O2.out, HW2.out⟩
          case measure => simp [intOf]; omega
        · obtain rfl : j = xss.length := by omega
          have HE : Hid ((xss.take xss.length).flatten = xss.flatten) := Lib.hid (by rw [List.take_length])
          go_wp2
          go_ret
          exact ⟨_, rfl, by rw [← HE.out]; exact HO.out, HW.out⟩
end Go.Proofs.Ytbejakkcdbhmaaa

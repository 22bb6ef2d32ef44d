/- Contract of joinAll of the program. -/
import Derived.Test.Ytbejakkcdbhmaaa03v
namespace Go.Proofs.Ytbejakkcdbhmaaa
open Go.RowKit
set_option linter.unusedVariables false
set_option linter.unusedSimpArgs false
/-- a make of no nodes with room for n -/
theorem mk_room {ops : Array Oper} {rest : List Oper} {o : Oper} {a : Act} {Q : Exit → Act → World → Prop} (w : World) (hgd : o.guard = none) (l c : Operand) (ho : o.op = Op.makeSlice 24 l c) (n : Nat)
    (hl : a.eval l = .int .i64 0) (hc : a.eval c = .int .i64 (n : Int)) (hn : n ≤ 1048576)
    (h : ∀ w', Ow cN 95 w.heap.size w' (.slice (some ⟨w.heap.size, 0, none⟩) 0 n) [] → Below w.heap.size w w' → wpList Try.prog ops Q rest (a.put o.dst (.slice (some ⟨w.heap.size, 0, none⟩) 0 n)) w') :
    wpList Try.prog ops Q (o :: rest) a w := by
  obtain ⟨i, hi, hz, hsize, hby⟩ := ty_node.info
  have hb : i.bytes = 16 := hby
  refine wpList_make_own w hgd l c 24 ho w.heap.size 95 i _ 2 ty_node.under hi hz hsize .i64 .i64 n n hl hc rfl (by rw [hb]; omega) (by simp only [maxLen]; omega) (Nat.le_refl _) fun w' hown hg => ?_
  exact h w' ⟨⟨_, _, rfl, Nat.zero_le _, by omega⟩, hown⟩ ((Below.refl _ _).grown hg (Nat.le_refl _) (by simp))
theorem impl_joinAll (op : Int) (v : Value) (xss : List (List Nd)) (w : World) (h : Sl2 cN w v xss) (h0 : 0 < xss.length) (hl : xss.length ≤ 262144) (hs : xss.flatten.length ≤ 262144) :
    Calls Try.prog 201 #[.int .i64 op, v] w fun e w' => ∃ u, e = .returned u ∧ Ow cN 95 w.heap.size w' u (joinL op xss) ∧ Below w.heap.size w w' := by
  obtain ⟨A, c, rfl⟩ := h.opn
  have H := Lib.hid h; clear h
  have hne : ((xss.length : Int) == 0) = false := beq_eq_false_iff_ne.2 (by omega)
  have hsub : IntKind.i64.wrap ((xss.length : Int) - 1) = ((xss.length - 1 : Nat) : Int) := by rw [IntWalk.i64_in _ ⟨by omega, by omega⟩]; omega
  obtain ⟨L, hL⟩ : ∃ L, xss.length - 1 = L := ⟨_, rfl⟩
  rw [hL] at hsub
  have HL := Lib.hid hL
  have hL' : L ≤ 262144 := by omega
  clear hL
  go_enter Try.func201, Try.ntmps201
  go_wp2
  go_loop [5, 23] (fun s i => ∃ j : Nat, j ≤ xss.length ∧ i = .int .i64 j ∧ s = .int .i64 ((L + (xss.take j).flatten.length : Nat))) (fun _ i => xss.length - (intOf i).toNat)
  case atStart => exact ⟨0, Nat.zero_le _, rfl, by first | rfl | (have := HL.out; simp; omega)⟩
  case round =>
    obtain ⟨j, hj, rfl, rfl⟩ := hrel
    by_cases hlt : j < xss.length
    · obtain ⟨b, o, Ai, ni, ci, rfl, hbl, hc0, hsj⟩ := H.out.at_ hlt
      obtain ⟨A', c', he⟩ := hsj.opn
      injection he with e1 e2 e3
      subst e1 e2 e3
      have h1 := congrArg List.length (flat_take_succ xss hlt)
      have h2 := flat_take_le xss (j + 1)
      rw [List.length_append] at h1
      obtain ⟨S, hS⟩ : ∃ S, L + (xss.take j).flatten.length = S := ⟨_, rfl⟩
      obtain ⟨T, hT⟩ : ∃ T, L + (xss.take (j + 1)).flatten.length = T := ⟨_, rfl⟩
      obtain ⟨M, hM⟩ : ∃ M, xss[j].length = M := ⟨_, rfl⟩
      have h3 : T = S + M := by omega
      have hb1 : S + M ≤ 1048576 := by omega
      rw [hM] at hc0
      rw [hS]
      have HT := Lib.hid hT
      have hw : IntKind.i64.wrap ((S : Int) + (M : Int)) = ((S + M : Nat) : Int) := by rw [IntWalk.i64_in _ ⟨by omega, by omega⟩]; omega
      have HTS := Lib.hid h3
      clear hS hT hM h1 h2 h3 hsj
      go_wp2
      go_round
      case rel => exact ⟨j + 1, by omega, by go_num, by rw [HT.out, HTS.out, Int.natCast_add]⟩
      case measure => simp [intOf]; omega
    · obtain rfl : j = xss.length := by omega
      have h2 := flat_take_le xss xss.length
      obtain ⟨S, hS⟩ : ∃ S, L + (xss.take xss.length).flatten.length = S := ⟨_, rfl⟩
      have hS' : S ≤ 1048576 := by omega
      rw [hS]
      clear hS h2
      go_wp2_with (at_make; refine stopHere ?_)
      refine goHere ?_
      refine mk_room w rfl _ _ rfl S rfl rfl hS' ?_
      intro w1 ho hb
      have O := Lib.hid ho
      have HB := Lib.hid hb
      clear ho hb
      go_wp2
      go_loopw [8, 37] (fun v i wr => ∃ j : Nat, j ≤ L ∧ i = .int .i64 j ∧ Ow cN 95 w.heap.size wr v (List.replicate j (op, 0)) ∧ Below w.heap.size w wr) (fun _ i _ => L - (intOf i).toNat)
      case atStart => exact ⟨0, Nat.zero_le _, rfl, O.out, HB.out⟩
      case round =>
        obtain ⟨j, hj, rfl, ho, hb⟩ := hrel
        have HO := Lib.hid ho
        have HW := Lib.hid hb
        have hz := hb.size
        clear ho hb
        by_cases hlt : j < L
        · go_wp2_with (at_builtin; refine stopHere ?_)
          refine goHere ?_
          refine ap_one (K := cN) _ ty_node rfl _ _ rfl (B := w.heap.size) (xs := List.replicate j (op, 0)) rfl HO.out (op, 0) rfl rfl (by simp <;> omega) hz ?_
          intro v1 w2 ho hg hb hat
          have HW2 := Lib.hid (HW.out.trans hb)
          have O2 := Lib.hid ho
          clear ho hg hb hat
          go_wp2
          go_roundw
          case rel => exact ⟨j + 1, by omega, by go_num, by rw [List.replicate_succ']; exact O2.out, HW2.out⟩
          case measure => simp [intOf]; omega
        · obtain rfl : j = L := by omega
          go_wp2
          go_loopw [8, 47] (fun v i wr => ∃ k : Nat, k ≤ xss.length ∧ i = .int .i64 k ∧ Ow cN 95 w.heap.size wr v (List.replicate j (op, 0) ++ (xss.take k).flatten) ∧ Below w.heap.size w wr) (fun _ i _ => xss.length - (intOf i).toNat)
          case atStart => exact ⟨0, Nat.zero_le _, rfl, by simpa using HO.out, HW.out⟩
          case round =>
            obtain ⟨k, hk, rfl, ho, hb⟩ := hrel
            have HO3 := Lib.hid ho
            have HW3 := Lib.hid hb
            have hz3 := hb.size
            clear ho hb
            by_cases hlt3 : k < xss.length
            · obtain ⟨b, o, Ai, ni, ci, rfl, hbl, hc0, hsj⟩ := (H.out.below HW3.out).at_ hlt3
              have HS := Lib.hid hsj
              have HT := Lib.hid (flat_take_succ xss hlt3)
              have h1 := congrArg List.length (flat_take_succ xss hlt3)
              have h2 := flat_take_le xss (k + 1)
              rw [List.length_append] at h1
              have hsum : (List.replicate j ((op, 0) : Nd) ++ (xss.take k).flatten).length + xss[k].length ≤ 1048576 := by rw [List.length_append, List.length_replicate]; omega
              have HSum := Lib.hid hsum
              clear h1 h2 hsj hsum
              go_wp2_with (at_builtin; refine stopHere ?_)
              refine goHere ?_
              refine ap_sl (K := cN) _ ty_node rfl _ _ rfl rfl rfl (B := w.heap.size) (xs := List.replicate j (op, 0) ++ (xss.take k).flatten) (news := xss[k]) HO3.out HS.out (by have := HSum.out; omega) hz3 ?_
              intro v1 w2 ho hg hb hat
              have HW4 := Lib.hid (HW3.out.trans hb)
              have O4 := Lib.hid ho
              clear ho hg hb hat
              go_wp2
              go_roundw
              case rel => exact ⟨k + 1, by omega, by go_num, by rw [HT.out, ← List.append_assoc]; exact O4.out, HW4.out⟩
              case measure => simp [intOf]; omega
            · obtain rfl : k = xss.length := by omega
              have HE : Hid (List.replicate j ((op, 0) : Nd) ++ (xss.take xss.length).flatten = joinL op xss) := Lib.hid (by rw [List.take_length, joinL, HL.out])
              go_wp2
              go_ret
              exact ⟨_, rfl, by rw [← HE.out]; exact HO3.out, HW3.out⟩
end Go.Proofs.Ytbejakkcdbhmaaa

/- Contracts of the least renumbering, of the reference: l05Least; and of l34Parts. -/
import Derived.Test.YtkdldfomdbgcaaaGreat34V
namespace Go.Proofs.YtkdldfomdbgcaaaGreat
open Go.RowKit
set_option linter.unusedVariables false
set_option linter.unusedSimpArgs false
/-- the best of the first i orders -/
def bst5 (ns : List Nat) (i : Nat) : List Nat := ((ors ns.length ns.length).take i).foldl (lstep ns) ns
theorem bst5_zero (ns : List Nat) : bst5 ns 0 = ns := by simp [bst5]
theorem bst5_all (ns : List Nat) : bst5 ns (ors ns.length ns.length).length = lst ns := by unfold bst5 lst; rw [List.take_length, ors_eq]
theorem bst5_succ (ns : List Nat) {i : Nat} (hi : i < (ors ns.length ns.length).length) : bst5 ns (i + 1) = lstep ns (bst5 ns i) (ors ns.length ns.length)[i] := by
  unfold bst5
  rw [List.take_succ_eq_append_getElem hi, List.foldl_append]
  rfl
theorem bst5_length (ns : List Nat) (i : Nat) : (bst5 ns i).length = ns.length :=
  lst_fold_length ns _ _ rfl fun o ho => (ors_in (List.mem_of_mem_take ho)).2
set_option maxRecDepth 100000 in
set_option maxHeartbeats 1000000 in
theorem spec_l05Least (ns : List Nat) (v : Value) (w : World) (h : Sl cI w v (li ns)) (hr : RelN ns) (h6 : ns.length ≤ 6) :
    Calls Tryz.prog 44 #[v] w fun e w' => ∃ A c, e = .returned (.slice A ns.length c) ∧ Ow cI 2 w.heap.size w' (.slice A ns.length c) (li (lst ns)) ∧ Below w.heap.size w w' := by
  obtain ⟨A0, c0, rfl⟩ := h.opn
  have EL := Lib.hid (li_length ns)
  rw [EL.out] at h ⊢
  have HX := Lib.hid h
  have HOr := Lib.hid (fun W => spec_l05Orders ns.length W h6)
  have HOw := Lib.hid (fun W (hW : Sl cI W (.slice A0 ns.length c0) (li ns)) => spec_l01Own _ (li ns) W hW (by rw [EL.out]; omega))
  have HRn := Lib.hid (fun i (hi : i < (ors ns.length ns.length).length) v W (hW : Sl cI W (.slice A0 ns.length c0) (li ns)) (hV : Sl cI W v (li (ors ns.length ns.length)[i])) => spec_l05Renumber ns (ors ns.length ns.length)[i] _ v W hW hV hr (ors_in (List.getElem_mem hi)).1 (ors_in (List.getElem_mem hi)).2)
  have HLs := Lib.hid (fun i (hi : i < (ors ns.length ns.length).length) v u W (hV : Sl cI W v (li (ren ns (ors ns.length ns.length)[i]))) (hU : Sl cI W u (li (bst5 ns i))) => spec_l01Less _ _ v u W hV hU (by rw [ren_length, (ors_in (List.getElem_mem hi)).2]; omega) (by rw [bst5_length]; omega))
  have HS : Hid (∀ i (hi : i < (ors ns.length ns.length).length), bst5 ns (i + 1) = if cml (ren ns (ors ns.length ns.length)[i]) (bst5 ns i) < 0 then ren ns (ors ns.length ns.length)[i] else bst5 ns i) := Lib.hid fun i hi => bst5_succ ns hi
  have HZ := Lib.hid (bst5_zero ns)
  have HA := Lib.hid (bst5_all ns)
  have HBL := Lib.hid (fun i => show (li (bst5 ns i)).length = ns.length by rw [li_length, bst5_length])
  have HOL := Lib.hid (fun i (hi : i < (ors ns.length ns.length).length) => show (li (ors ns.length ns.length)[i]).length = ns.length by rw [li_length]; exact (ors_in (List.getElem_mem hi)).2)
  have HL6 := ors_len6 h6 (Nat.le_refl ns.length)
  clear h hr
  generalize ors ns.length ns.length = L at *
  go_enter Tryz.func44, Tryz.ntmps44
  go_wp2_with fail
  refine (HOr.out _).mono ?_
  rintro e w1 ⟨v1, rfl, ho, hb⟩
  obtain ⟨A1, c1, rfl⟩ := ho.opn
  rw [List.length_map] at ho ⊢
  have HO := Lib.hid ho
  have B1 := Lib.hid hb
  have HX1 := Lib.hid (HX.out.below hb)
  clear ho hb
  go_wp2_with fail
  refine (HOw.out _ HX1.out).mono ?_
  rintro e w2 ⟨v2, rfl, ho, hb⟩
  have O2 := Lib.hid (ho.mono B1.out.size)
  have B2 := Lib.hid (bthen B1.out hb)
  have HX2 := Lib.hid (HX1.out.below hb)
  have HO2 := Lib.hid (HO.out.below hb)
  clear ho hb
  go_wp2
  go_loopw [4, 5] (fun v i wr => ∃ j : Nat, j ≤ L.length ∧ i = .int .i64 j ∧ Ow cI 2 w.heap.size wr v (li (bst5 ns j)) ∧ Below w2.heap.size w2 wr) (fun _ i _ => L.length - (intOf i).toNat)
  case atStart => exact ⟨0, Nat.zero_le _, rfl, by rw [HZ.out]; exact O2.out, Below.refl _ _⟩
  case round =>
    obtain ⟨j, hj, rfl, ho, hb⟩ := hrel
    obtain ⟨w3, hw3⟩ : ∃ W, W = wr := ⟨_, rfl⟩
    subst hw3
    obtain ⟨A4, c4, rfl⟩ := ho.opn
    rw [HBL.out] at ho ⊢
    have O3 := Lib.hid ho
    have B3 := Lib.hid hb
    clear ho
    by_cases hlt : j < L.length
    · have i1 : (j : Int) < (L.length : Int) := by omega
      obtain ⟨b, o, Ai, ni, ci, rfl, hbl, hc0, hs0⟩ := (HO2.out.below hb).at_ (k := j) (by rw [List.length_map]; exact hlt)
      rw [mapli_get L j (by rw [List.length_map]; exact hlt)] at hs0
      have hni : ni = ns.length := by
        obtain ⟨A', c', hv⟩ := hs0.opn
        rw [HOL.out j hlt] at hv
        injection hv
      subst hni
      have HQ := Lib.hid hs0
      have HSj := Lib.hid (HS.out j hlt)
      have HRj := Lib.hid (HRn.out j hlt)
      have HLj := Lib.hid (HLs.out j hlt)
      have HX3 := Lib.hid (HX2.out.below hb)
      have HRL : Hid ((li (ren ns L[j])).length = ns.length) := Lib.hid (by rw [li_length, ren_length]; have := HOL.out j hlt; rwa [li_length] at this)
      clear hs0 hb
      generalize L[j] = oj at *
      generalize bst5 ns j = b0 at *
      generalize ren ns oj = rj at *
      go_wp2_with fail
      refine (HRj.out _ _ HX3.out HQ.out).mono ?_
      rintro e w4 ⟨A5, c5, rfl, ho, hb⟩
      have O5 := Lib.hid ho
      have B4 := Lib.hid hb
      have O4 := Lib.hid (O3.out.below hb)
      clear ho hb hc0 hbl
      go_wp2_with fail
      refine (HLj.out _ _ _ O5.out.sl O4.out.sl).mono ?_
      rintro e w5 ⟨rfl, hb⟩
      have O6 := Lib.hid (O5.out.below hb)
      have O7 := Lib.hid (O4.out.below hb)
      have B5 := Lib.hid (B3.out.trans ((bthen B4.out hb).mono B3.out.size))
      have HZ5 := Lib.hid (Nat.le_trans B2.out.size B3.out.size)
      clear hb O5 O4
      by_cases hc : cml rj b0 < 0
      · rw [if_pos hc] at HSj
        rw [decide_eq_true hc]
        clear hc
        go_wp2
        go_roundw
        case rel => exact ⟨j + 1, by omega, by go_num, by rw [HSj.out]; exact O6.out.mono HZ5.out, B5.out⟩
        case measure => simp [intOf]; omega
      · rw [if_neg hc] at HSj
        rw [decide_eq_false hc]
        clear hc
        go_wp2
        go_roundw
        case rel => exact ⟨j + 1, by omega, by go_num, by rw [HSj.out]; exact O7.out, B5.out⟩
        case measure => simp [intOf]; omega
    · obtain rfl : j = L.length := by omega
      rw [HA.out] at O3
      clear hb
      go_wp2
      go_ret
      exact ⟨_, _, rfl, O3.out, bthen B2.out B3.out⟩
end Go.Proofs.YtkdldfomdbgcaaaGreat

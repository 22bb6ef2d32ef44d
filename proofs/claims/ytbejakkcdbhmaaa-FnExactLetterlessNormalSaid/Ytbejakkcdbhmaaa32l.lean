/- Contracts of chapter 32: the code of letterless formulas, of the reference. -/
import Derived.Test.Ytbejakkcdbhmaaa32k
namespace Go.Proofs.Ytbejakkcdbhmaaa
open Go.RowKit
set_option linter.unusedVariables false
set_option linter.unusedSimpArgs false
theorem spec_l32Code (v : Value) (xss : List (List Nd)) (w : World) (h : Sl2 cN w v xss) (hl : xss.length ≤ 1073741824) (hls : ∀ xs ∈ xss, xs.length ≤ 1048576) :
    Calls Try.prog 119 #[v] w fun e w' => e = .returned (.int .i64 (lcode xss)) ∧ Below w.heap.size w w' := by
  obtain ⟨A, c, rfl⟩ := h.opn
  have HLS := Lib.hid hls; clear hls
  go_enter Try.func119, Try.ntmps119
  go_wp2
  go_loop [3] (fun i => ∃ j : Nat, j ≤ xss.length ∧ i = .int .i64 j ∧ (xss.take j).all isF = true) (fun i => xss.length - (intOf i).toNat)
  case atStart => exact ⟨0, Nat.zero_le _, rfl, rfl⟩
  case round =>
    obtain ⟨j, hj, rfl, hh⟩ := hrel
    have Hh := Lib.hid hh; clear hh
    by_cases hlt : j < xss.length
    · obtain ⟨b, o, Ai, ni, ci, rfl, hbl, hc0, hs⟩ := h.at_ hlt
      have HT : Hid ((xss.take (j + 1)).all isF = isF xss[j]) := by
        show _ = _
        rw [List.take_succ_eq_append_getElem hlt, List.all_append, Hh.out]
        simp
      have HA : Hid (isF xss[j] = false → lcode xss = 1) := by
        intro hf
        have : xss.all isF = false := by
          rw [← Bool.not_eq_true]
          intro ha
          have := List.all_eq_true.1 ha _ (List.getElem_mem hlt)
          rw [this] at hf
          cases hf
        unfold lcode
        rw [this]
        rfl
      have HB := Lib.hid (HLS.out _ (List.getElem_mem hlt))
      have HS := Lib.hid hs; clear hs
      go_wp2_with fail
      refine (spec_l02Is _ _ _ HS.out (by have := HB.out; omega)).mono ?_
      rintro e w1 ⟨rfl, rfl⟩
      by_cases hf : isF xss[j] = true
      · rw [hf] at HT ⊢
        clear hf
        go_wp2
        go_round
        case rel => exact ⟨j + 1, by omega, by go_num, HT.out⟩
        case measure => simp [intOf]; omega
      · rw [Bool.not_eq_true] at hf
        have HE := Lib.hid (HA.out hf)
        rw [hf]
        clear hf
        go_wp2
        go_ret
        exact ⟨by rw [HE.out]; rfl, Below.refl _ _⟩
    · have hF : xss.all isF = true := by
        have := Hh.out
        rw [List.take_of_length_le (by omega)] at this
        exact this
      have HF := Lib.hid hF; clear hF
      go_wp2
      go_loopw [4] (fun i wr => ∃ j : Nat, j ≤ xss.length ∧ i = .int .i64 j ∧ (xss.take j).all letterless = true ∧ Below w.heap.size w wr) (fun i _ => xss.length - (intOf i).toNat)
      case atStart => exact ⟨0, Nat.zero_le _, rfl, rfl, Below.refl _ _⟩
      case round =>
        obtain ⟨i, hi, rfl, hh2, hb⟩ := hrel
        have Hh2 := Lib.hid hh2; clear hh2
        by_cases hlt2 : i < xss.length
        · obtain ⟨b, o, Ai, ni, ci, rfl, hbl, hc0, hs⟩ := (h.below hb).at_ hlt2
          have HT : Hid ((xss.take (i + 1)).all letterless = letterless xss[i]) := by
            show _ = _
            rw [List.take_succ_eq_append_getElem hlt2, List.all_append, Hh2.out]
            simp
          have HA : Hid (letterless xss[i] = false → lcode xss = 5) := by
            intro hf
            have : xss.all letterless = false := by
              rw [← Bool.not_eq_true]
              intro ha
              have := List.all_eq_true.1 ha _ (List.getElem_mem hlt2)
              rw [this] at hf
              cases hf
            unfold lcode
            rw [HF.out, this]
            rfl
          have H2 := Lib.hid (List.all_eq_true.1 HF.out _ (List.getElem_mem hlt2))
          have HS := Lib.hid hs; clear hs
          go_wp2_with fail
          refine (spec_l32Letterless _ _ _ HS.out (by have := isF_len H2.out; omega) (isF_nodes H2.out)).mono ?_
          rintro e w1 ⟨rfl, hb1⟩
          have HB2 := Lib.hid (bthen hb hb1)
          clear hb hb1
          by_cases hf : letterless xss[i] = true
          · rw [hf] at HT ⊢
            clear hf
            go_wp2
            go_roundw
            case rel => exact ⟨i + 1, by omega, by go_num, HT.out, HB2.out⟩
            case measure => simp [intOf]; omega
          · rw [Bool.not_eq_true] at hf
            have HE := Lib.hid (HA.out hf)
            rw [hf]
            clear hf
            go_wp2
            go_ret
            exact ⟨by rw [HE.out]; rfl, HB2.out⟩
        · have hF2 : lcode xss = 0 := by
            have := Hh2.out
            rw [List.take_of_length_le (by omega)] at this
            unfold lcode
            rw [HF.out, this]
            rfl
          have HE := Lib.hid hF2; clear hF2
          have HB2 := Lib.hid hb; clear hb
          go_wp2
          go_ret
          exact ⟨by rw [HE.out]; rfl, HB2.out⟩
end Go.Proofs.Ytbejakkcdbhmaaa

/- Contracts of chapter 7, of the program: slices.Max, classCount, mapMask, quotientRelation, frameOf. -/
import Derived.Test.YtodfcppfmpakjaaDoor05f
import Derived.Test.YtodfcppfmpakjaaDoorSA
import Derived.StillTailTactics
namespace Go.Proofs.YtodfcppfmpakjaaDoor
open Go.RowKit
set_option linter.unusedVariables false
set_option linter.unusedSimpArgs false
theorem slices_Max (v : Value) (cl : List Nat) (w : World) (h : Sl cI w v (li cl)) (h0 : 0 < cl.length) (hl : cl.length ≤ 1048576) (hb : ∀ i, cl.getD i 0 < 256) :
    Calls Tryd.prog 87 #[v] w fun e w' => e = .returned (.int .i64 (mx cl cl.length - 1 : Nat)) ∧ w = w' := by
  obtain ⟨A, c, rfl⟩ := h.opn
  have HL := Lib.hid (li_length cl)
  obtain ⟨b, o, rfl, hbl, hc0⟩ := h.atI (k := 0) (by rw [li_length]; exact h0)
  rw [li_get, Nat.add_zero] at hc0
  obtain ⟨y0, hy0⟩ : ∃ y, cl.getD 0 0 = y := ⟨_, rfl⟩
  rw [hy0] at hc0
  have HY := Lib.hid (show mx cl 1 = y0 + 1 by rw [← hy0]; simp [mx])
  have HS := Lib.hid h
  rw [HL.out] at HS ⊢
  have HB := Lib.hid hb
  clear h hb hy0
  have h1 : ¬ (cl.length : Int) < 1 := by omega
  go_enter Tryd.func87, Tryd.ntmps87
  go_wp2
  go_loop [3, 4] (fun m i => ∃ j q : Nat, 1 ≤ j ∧ j ≤ cl.length ∧ i = .int .i64 j ∧ m = .int .i64 q ∧ mx cl j = q + 1) (fun _ i => cl.length - (intOf i).toNat)
  case atStart => exact ⟨1, y0, Nat.le_refl _, h0, rfl, rfl, HY.out⟩
  case round =>
    obtain ⟨j, q, hj1, hj, rfl, rfl, hm⟩ := hrel
    have HM := Lib.hid hm
    clear hm
    by_cases hlt : j < cl.length
    · obtain ⟨b2, o2, hA, hbl2, hc2⟩ := (show Sl cI w (.slice (some ⟨b, o, none⟩) (li cl).length c) (li cl) by rw [HL.out]; exact HS.out).atI (k := j) (by rw [li_length]; exact hlt)
      injection hA with hA
      injection hA with hA hA2
      subst hA; subst hA2
      rw [li_get] at hc2
      have HE : Hid (mx cl (j + 1) = max q (cl.getD j 0) + 1) := Lib.hid (by rw [mx, HM.out]; omega)
      have hk := HB.out j
      generalize cl.getD j 0 = y at *
      rcases Nat.le_total q y with hq | hq
      all_goals
        go_wp2

        go_round
        case rel => exact ⟨j + 1, max q y, by omega, by omega, by go_num, by first | (rw [Nat.max_eq_right hq]; done) | (rw [Nat.max_eq_left hq]; done) | go_num, HE.out⟩
        case measure => simp [intOf]; omega
    · obtain rfl : j = cl.length := by omega
      go_wp2
      go_ret
      exact ⟨by rw [HM.out]; rfl, rfl⟩
theorem impl_classCount (v : Value) (cl : List Nat) (w : World) (h : Sl cI w v (li cl)) (hl : cl.length ≤ 1048576) (hb : ∀ i, cl.getD i 0 < 256) :
    Calls Tryd.prog 68 #[v] w fun e w' => e = .returned (.int .i64 (mx cl cl.length : Nat)) ∧ w = w' := by
  obtain ⟨A, c, rfl⟩ := h.opn
  have HL := Lib.hid (li_length cl)
  rcases Nat.eq_zero_or_pos cl.length with h0 | h0
  · have HE : Hid (mx cl cl.length = 0) := Lib.hid (by rw [h0]; rfl)
    have hz : (li cl).length = 0 := by rw [li_length, h0]
    rw [hz]
    clear h0 HL h hz
    go_enter Tryd.func68, Tryd.ntmps68
    go_wp2
    go_ret
    exact ⟨by rw [HE.out]; rfl, rfl⟩
  · have HC := Lib.hid (slices_Max _ cl w h h0 hl hb)
    have HE : Hid (∃ q : Nat, mx cl cl.length = q + 1 ∧ q < 256) := Lib.hid (by
      have h1 := mx_gt cl (show 0 < cl.length from h0)
      have h2 := mx_le cl 256 cl.length (fun i _ => hb i)
      exact ⟨mx cl cl.length - 1, by omega, by omega⟩)
    rw [HL.out] at HC ⊢
    obtain ⟨q, hq, hq2⟩ := HE.out
    have HQ := Lib.hid hq
    rw [show mx cl cl.length - 1 = q by omega] at HC
    clear hq HE h hb
    have hne : ((cl.length : Int) == 0) = false := by rw [beq_eq_false_iff_ne]; omega
    go_enter Tryd.func68, Tryd.ntmps68
    go_wp2_with fail
    refine HC.out.mono ?_
    rintro e w1 ⟨rfl, rfl⟩
    go_wp2
    go_ret
    exact ⟨by rw [HQ.out]; first | rfl | (congr 1), rfl⟩
end Go.Proofs.YtodfcppfmpakjaaDoor

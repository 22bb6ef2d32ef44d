/- Contracts of chapter 7, of the program: slices.Max, classCount, mapMask, quotientRelation, frameOf. -/
import Derived.Test.YtnolbgdbboiehaaGreat05f
import Derived.Test.YtnolbgdbboiehaaGreatSA
import Derived.StillTailTactics
namespace Go.Proofs.YtnolbgdbboiehaaGreat
open Go.RowKit
set_option linter.unusedVariables false
set_option linter.unusedSimpArgs false
theorem slices_Max (v : Value) (cl : List Nat) (w : World) (h : Sl cI w v (li cl)) (h0 : 0 < cl.length) (hl : cl.length ≤ 1048576) (hb : ∀ i, cl.getD i 0 < 256) :
    Calls Tryz.prog 227 #[v] w fun e w' => e = .returned (.int .i64 (mx cl cl.length - 1 : Nat)) ∧ w = w' := by
  obtain ⟨A, c, rfl⟩ := h.opn
  have HL := Lib.hid (li_length cl)
  obtain ⟨b, o, rfl, hbl, hc0⟩ := h.atI (k := 0) (by rw [li_length]; exact h0)
  rw [li_get, Nat.add_zero] at hc0
  obtain ⟨y0, hy0⟩ : ∃ y, cl.getD 0 0 = y := ⟨_, rfl⟩
  rw [hy0] at hc0
  have HY := Lib.hid (show mx cl 1 = y0 + 1 by rw [← hy0]; simp [mx])
  have HS := Lib.hid h
  rw [HL.out] at HS ⊢
  have HB := Lib.hid hb
  clear h hb hy0
  have h1 : ¬ (cl.length : Int) < 1 := by omega
  go_enter Tryz.func227, Tryz.ntmps227
  go_wp2
  go_loop [3, 4] (fun m i => ∃ j q : Nat, 1 ≤ j ∧ j ≤ cl.length ∧ i = .int .i64 j ∧ m = .int .i64 q ∧ mx cl j = q + 1) (fun _ i => cl.length - (intOf i).toNat)
  case atStart => exact ⟨1, y0, Nat.le_refl _, h0, rfl, rfl, HY.out⟩
  case round =>
    obtain ⟨j, q, hj1, hj, rfl, rfl, hm⟩ := hrel
    have HM := Lib.hid hm
    clear hm
    by_cases hlt : j < cl.length
    · obtain ⟨b2, o2, hA, hbl2, hc2⟩ := (show Sl cI w (.slice (some ⟨b, o, none⟩) (li cl).length c) (li cl) by rw [HL.out]; exact HS.out).atI (k := j) (by rw [li_length]; exact hlt)
      injection hA with hA
      injection hA with hA hA2
      subst hA; subst hA2
      rw [li_get] at hc2
      have HE : Hid (mx cl (j + 1) = max q (cl.getD j 0) + 1) := Lib.hid (by rw [mx, HM.out]; omega)
      have hk := HB.out j
      generalize cl.getD j 0 = y at *
      rcases Nat.le_total q y with hq | hq
      all_goals
        go_wp2

        go_round
        case rel => exact ⟨j + 1, max q y, by omega, by omega, by go_num, by first | (rw [Nat.max_eq_right hq]; done) | (rw [Nat.max_eq_left hq]; done) | go_num, HE.out⟩
        case measure => simp [intOf]; omega
    · obtain rfl : j = cl.length := by omega
      go_wp2
      go_ret
      exact ⟨by rw [HM.out]; rfl, rfl⟩
theorem impl_classCount (v : Value) (cl : List Nat) (w : World) (h : Sl cI w v (li cl)) (hl : cl.length ≤ 1048576) (hb : ∀ i, cl.getD i 0 < 256) :
    Calls Tryz.prog 186 #[v] w fun e w' => e = .returned (.int .i64 (mx cl cl.length : Nat)) ∧ w = w' := by
  obtain ⟨A, c, rfl⟩ := h.opn
  have HL := Lib.hid (li_length cl)
  rcases Nat.eq_zero_or_pos cl.length with h0 | h0
  · have HE : Hid (mx cl cl.length = 0) := Lib.hid (by rw [h0]; rfl)
    have hz : (li cl).length = 0 := by rw [li_length, h0]
    rw [hz]
    clear h0 HL h hz
    go_enter Tryz.func186, Tryz.ntmps186
    go_wp2
    go_ret
    exact ⟨by rw [HE.out]; rfl, rfl⟩
  · have HC := Lib.hid (slices_Max _ cl w h h0 hl hb)
    have HE : Hid (∃ q : Nat, mx cl cl.length = q + 1 ∧ q < 256) := Lib.hid (by
      have h1 := mx_gt cl (show 0 < cl.length from h0)
      have h2 := mx_le cl 256 cl.length (fun i _ => hb i)
      exact ⟨mx cl cl.length - 1, by omega, by omega⟩)
    rw [HL.out] at HC ⊢
    obtain ⟨q, hq, hq2⟩ := HE.out
    have HQ := Lib.hid hq
    rw [show mx cl cl.length - 1 = q by omega] at HC
    clear hq HE h hb
    have hne : ((cl.length : Int) == 0) = false := by rw [beq_eq_false_iff_ne]; omega
    go_enter Tryz.func186, Tryz.ntmps186
    go_wp2_with fail
    refine HC.out.mono ?_
    rintro e w1 ⟨rfl, rfl⟩
    go_wp2
    go_ret
    exact ⟨by rw [HQ.out]; first | rfl | (congr 1), rfl⟩
theorem impl_mapMask (v : Value) (cl : List Nat) (m : Nat) (w : World) (h : Sl cI w v (li cl)) (h8 : cl.length ≤ 8) (hb : ∀ c ∈ cl, c < 8) (hm : m < 2 ^ cl.length) :
    Calls Tryz.prog 95 #[v, .int .i64 m] w fun e w' => e = .returned (.int .i64 (img (pw cl) m : Nat)) ∧ Below w.heap.size w w' := by
  obtain ⟨A, c, rfl⟩ := h.opn
  have HL := Lib.hid (li_length cl)
  rw [HL.out] at h ⊢
  have hm256 := two_pow_256 h8
  have HM := Lib.hid hm
  have EI : Hid (orL (pw cl) (mems m) = img (pw cl) m) := Lib.hid (orL_img (pw cl) m (by rw [pw_length]; exact hm) (by rw [pw_length]; exact h8))
  have HO := Lib.hid (orL_lt (pw_lt hb))
  have HX : Hid (∀ x : Nat, x < cl.length → cl.getD x 0 < 8) := Lib.hid (fun x hx => hb _ (getD_mem hx))
  have HPW : Hid (∀ x : Nat, x < cl.length → (pw cl).getD x 0 = 2 ^ cl.getD x 0) := Lib.hid (fun x hx => pw_getD hx)
  have HS := Lib.hid h
  clear h hb
  go_enter Tryz.func95, Tryz.ntmps95
  go_wp2_with fail
  refine (impl_membersOf m _ (by omega)).mono ?_
  rintro e w1 ⟨vm, rfl, ho, hb⟩
  obtain ⟨A2, c2, rfl⟩ := ho.opn
  have hms := ho.sl
  have hml := mems_length m
  have HMM := Lib.hid (fun x (hx : x ∈ mems m) => mems_mem HM.out hx)
  have h1 := HS.out.below hb
  have HB := Lib.hid hb
  clear ho hb hm hm256 HM
  generalize mems m = ms at *
  go_wp2
  go_loop [5, 11] (fun t i => ∃ j : Nat, j ≤ ms.length ∧ i = .int .i64 j ∧ t = .int .i64 (orL (pw cl) (ms.take j) : Nat)) (fun _ i => ms.length - (intOf i).toNat)
  case atStart => exact ⟨0, Nat.zero_le _, rfl, rfl⟩
  case round =>
    obtain ⟨j, hj, rfl, rfl⟩ := hrel
    by_cases hlt : j < ms.length
    · obtain ⟨b, o, rfl, hbl, hc0⟩ := hms.atI hlt
      obtain ⟨x, hxx, hxn⟩ := HMM.out ms[j] (List.getElem_mem hlt)
      have HE : Hid (orL (pw cl) (ms.take (j + 1)) = orL (pw cl) (ms.take j) ||| 2 ^ cl.getD x 0) := Lib.hid (by rw [List.take_succ_eq_append_getElem hlt, orL_snoc, hxx, Int.toNat_natCast, HPW.out x hxn])
      rw [hxx] at hc0
      have hx' : x < (li cl).length := by rw [HL.out]; exact hxn
      obtain ⟨b2, o2, rfl, hbl2, hd0⟩ := h1.atI hx'
      rw [li_get] at hd0
      have hq := HO.out (ms.take j)
      have hy := HX.out x hxn
      clear hxx
      generalize orL (pw cl) (ms.take j) = q at *
      generalize cl.getD x 0 = y at *
      have e1 := wrap_two_pow (n := y) (by omega)
      have e2 := i64_or_nat q (2 ^ y) (by omega) (two_pow_lt (by omega))
      rw [← cast_two_pow] at e2
      go_wp2
      go_round
      case rel => exact ⟨j + 1, by omega, by go_num, by rw [HE.out]⟩
      case measure => simp [intOf]; omega
    · have HE : Hid (orL (pw cl) (ms.take j) = img (pw cl) m) := Lib.hid (by rw [List.take_of_length_le (by omega), EI.out])
      go_wp2
      go_ret
      exact ⟨by rw [HE.out]; rfl, HB.out⟩
end Go.Proofs.YtnolbgdbboiehaaGreat

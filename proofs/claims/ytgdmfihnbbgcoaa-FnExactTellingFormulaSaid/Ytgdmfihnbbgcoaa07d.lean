/- Contracts of chapter 7, of the reference: atoms, forth, back. -/
import Derived.Test.YtgdmfihnbbgcoaaSA
import Derived.StillTailTactics
namespace Go.Proofs.Ytgdmfihnbbgcoaa
open Go.RowKit
set_option linter.unusedVariables false
set_option linter.unusedSimpArgs false
theorem q_l01Bit {m i : Nat} (hm : m < 9223372036854775808) (hi : i ≤ 63) (W : World) (n : Nat) :
    Calls Try.prog 145 #[.int .i64 m, .int .i64 i] (W.drewN n) fun e w'' => e = .returned (.bool (m.testBit i)) ∧ ∃ q, w'' = W.drewN q :=
  (spec_l01Bit m i _ hm hi).mono fun e w' hh => ⟨hh.1, n, hh.2.symm⟩
set_option maxRecDepth 100000 in
theorem spec_l07Atoms (n k : Int) (A0 B0 : Option Addr) (a0 b0 c0 d0 : Nat) (v u : Value) (us ts : List Nat) (x y : Nat) (w : World) (h : Sl cI w v (li us)) (h' : Sl cI w u (li ts)) (hl : us.length = 6) (hl' : ts.length = 6)
    (hb : ∀ i, us.getD i 0 < 256) (hb' : ∀ i, ts.getD i 0 < 256) (hx : x ≤ 60) (hy : y ≤ 60) :
    Calls Try.prog 207 #[.agg #[.int .i64 n, .slice A0 a0 c0, v], .agg #[.int .i64 k, .slice B0 b0 d0, u], .int .i64 x, .int .i64 y] w fun e w' => e = .returned (.bool (atm us ts x y)) ∧ Below w.heap.size w w' := by
  obtain ⟨A, c, rfl⟩ := h.opn
  obtain ⟨B, d, rfl⟩ := h'.opn
  have HL := Lib.hid (show (li us).length = 6 by rw [li_length, hl])
  have HL' := Lib.hid (show (li ts).length = 6 by rw [li_length, hl'])
  rw [HL.out] at h ⊢
  rw [HL'.out] at h' ⊢
  have HU := Lib.hid hb
  have HU' := Lib.hid hb'
  have hb0 := below_alloc' w (.cells #[.int .i64 n, .slice A0 a0 c0, .slice A 6 c] 62)
  have hk0 := Blk.new w 62 #[.int .i64 n, .slice A0 a0 c0, .slice A 6 c]
  have hb1 := below_alloc' (w.alloc (.cells #[.int .i64 n, .slice A0 a0 c0, .slice A 6 c] 62)) (.cells #[.int .i64 k, .slice B0 b0 d0, .slice B 6 d] 62)
  have hk1 : Blk _ (w.heap.size + 1) _ _ := Blk.new' (w.alloc (.cells #[.int .i64 n, .slice A0 a0 c0, .slice A 6 c] 62)) 62 #[.int .i64 k, .slice B0 b0 d0, .slice B 6 d] (by simp)
  have HB := Lib.hid (bthen hb0 hb1)
  have HK0 := Lib.hid (hk0.below hb1 hk0.lt)
  have HK1 := Lib.hid hk1
  have HA := Lib.hid ((h.below hb0).below hb1)
  have HA' := Lib.hid ((h'.below hb0).below hb1)
  clear h h' hb0 hb1 hk0 hk1 hl hl' hb hb'
  go_enter Try.func207, Try.ntmps207
  go_upto_region 1 with fail
  generalize World.alloc (w.alloc _) _ = W at *
  go_wp2
  go_loopw [9] (fun i wr => ∃ j : Nat, j ≤ 6 ∧ i = .int .i64 j ∧ (∀ v < j, ((us.getD v 0).testBit x == (ts.getD v 0).testBit y) = true) ∧ Below W.heap.size W wr) (fun i _ => 6 - (intOf i).toNat)
  case atStart => exact ⟨0, Nat.zero_le _, rfl, fun i hi => by omega, Below.refl _ _⟩
  case round =>
    obtain ⟨j, hj, rfl, hh, hb⟩ := hrel
    have HH := Lib.hid hh
    clear hh
    have k0 : wr.cell? ⟨w.heap.size, 2, none⟩ = some (.slice A 6 c) := (HK0.out.below hb HK0.out.lt).cell 2
    have k1 : wr.cell? ⟨w.heap.size + 1, 2, none⟩ = some (.slice B 6 d) := (HK1.out.below hb HK1.out.lt).cell 2
    by_cases hlt : j < 6
    · have hlt1 : j < (li us).length := by rw [HL.out]; exact hlt
      have hlt2 : j < (li ts).length := by rw [HL'.out]; exact hlt
      obtain ⟨b, o, rfl, hbl, hc0⟩ := (HA.out.below hb).atI hlt1
      obtain ⟨b5, o5, rfl, hbl5, hc5⟩ := (HA'.out.below hb).atI hlt2
      rw [li_get] at hc0 hc5
      have hm := HU.out j
      have hq := HU'.out j
      have HBw := Lib.hid hb
      have HQ1 := Lib.hid (fun n => q_l01Bit (m := us.getD j 0) (i := x) (by omega) (by omega) wr n)
      have HQ2 := Lib.hid (fun n => q_l01Bit (m := ts.getD j 0) (i := y) (by omega) (by omega) wr n)
      have i1 : (j : Int) < 6 := by omega
      by_cases hz : (us.getD j 0).testBit x = (ts.getD j 0).testBit y
      · have HN : Hid (∀ v < j + 1, ((us.getD v 0).testBit x == (ts.getD v 0).testBit y) = true) := Lib.hid (fun v hv => (Nat.lt_or_ge v j).elim (fun h => HH.out v h) (fun h => (show v = j by omega) ▸ by rw [hz]; simp))
        have hd : ((us.getD j 0).testBit x != (ts.getD j 0).testBit y) = false := by rw [hz]; simp
        generalize (us.getD j 0).testBit x = e1 at *
        generalize (ts.getD j 0).testBit y = e2 at *
        generalize us.getD j 0 = m at *
        generalize ts.getD j 0 = q at *
        subst hz
        clear hd hb
        cases e1
        all_goals
          go_wp2
          go_quiet ((go_at_call 145; first | with_reducible exact HQ1.out _ | with_reducible exact HQ2.out _))
          go_wp2
          go_roundw
          case rel => exact ⟨j + 1, by omega, by go_num, HN.out, below_drewN HBw.out _⟩
          case measure => simp [intOf]; omega
      · have EE : Hid (atm us ts x y = false) := Lib.hid (by
          unfold atm
          rw [← Bool.not_eq_true, List.all_eq_true]
          intro h
          exact hz (by simpa using h j (List.mem_range.2 hlt)))
        have hd : ((us.getD j 0).testBit x != (ts.getD j 0).testBit y) = true := bne_iff_ne.2 hz
        generalize (us.getD j 0).testBit x = e1 at *
        generalize (ts.getD j 0).testBit y = e2 at *
        generalize us.getD j 0 = m at *
        generalize ts.getD j 0 = q at *
        clear hd hb
        cases e1 <;> cases e2
        all_goals first | exact absurd rfl hz | skip
        all_goals
          clear hz
          go_wp2
          go_quiet ((go_at_call 145; first | with_reducible exact HQ1.out _ | with_reducible exact HQ2.out _))
          go_wp2
          go_ret
          exact ⟨by rw [EE.out]; rfl, bthen HB.out (below_drewN HBw.out _)⟩
    · have EE : Hid (atm us ts x y = true) := Lib.hid (by
        unfold atm
        rw [List.all_eq_true]
        intro v hv
        exact HH.out v (by rw [List.mem_range] at hv; omega))
      have HBw := Lib.hid hb
      obtain rfl : j = 6 := by omega
      clear hb
      go_wp2
      go_ret
      exact ⟨by rw [EE.out]; rfl, bthen HB.out HBw.out⟩
theorem spec_l07Forth (v : Value) (lk : List Nat) (a b : Nat) (w : World) (h : Sl cI w v (li lk)) (h8 : lk.length ≤ 8) (hlt : ∀ x ∈ lk, x < 2 ^ 8) (ha : a < 256) (hb : b < 256) :
    Calls Try.prog 208 #[v, .int .i64 a, .int .i64 b] w fun e w' => e = .returned (.bool (frt lk a b)) ∧ w = w' := by
  obtain ⟨A, c, rfl⟩ := h.opn
  have HL := Lib.hid (li_length lk)
  rw [HL.out] at h ⊢
  have HX := Lib.hid (getD_lt hlt)
  clear hlt
  go_enter Try.func208, Try.ntmps208
  go_wp2
  go_loop [7] (fun i => ∃ j : Nat, j ≤ lk.length ∧ i = .int .i64 j ∧ (∀ s < j, (!(a.testBit s && decide (lk.getD s 0 &&& b = 0))) = true)) (fun i => lk.length - (intOf i).toNat)
  case atStart => exact ⟨0, Nat.zero_le _, rfl, fun i hi => by omega⟩
  case round =>
    obtain ⟨j, hj, rfl, hh⟩ := hrel
    have HH := Lib.hid hh
    clear hh
    by_cases hlt : j < lk.length
    · have hlt1 : j < (li lk).length := by rw [HL.out]; exact hlt
      obtain ⟨b1, o, rfl, hbl, hc0⟩ := h.atI hlt1
      rw [li_get] at hc0
      have hm := HX.out j
      have e2 := i64_and_nat (lk.getD j 0) b (by omega) (by omega)
      have HN : Hid ((!(a.testBit j && decide (lk.getD j 0 &&& b = 0))) = true → ∀ s < j + 1, (!(a.testBit s && decide (lk.getD s 0 &&& b = 0))) = true) := Lib.hid (fun hj s hs => (Nat.lt_or_ge s j).elim (fun h => HH.out s h) (fun h => (show s = j by omega) ▸ hj))
      have HF : Hid ((!(a.testBit j && decide (lk.getD j 0 &&& b = 0))) = false → frt lk a b = false) := Lib.hid (fun hj => by
        unfold frt
        rw [← Bool.not_eq_true, List.all_eq_true]
        intro h
        have := h j (List.mem_range.2 hlt)
        rw [hj] at this
        cases this)
      generalize lk.getD j 0 &&& b = r at *
      generalize lk.getD j 0 = m at *
      go_wp2_with fail
      refine (spec_l01Bit a j _ (by omega) (by omega)).mono ?_
      rintro e w1 ⟨rfl, rfl⟩
      cases ht : a.testBit j
      · rw [ht] at HN HF
        replace HN := Lib.hid (HN.out rfl)
        clear ht HF
        go_wp2
        go_round
        case rel => exact ⟨j + 1, by omega, by go_num, HN.out⟩
        case measure => simp [intOf]; omega
      · rw [ht] at HN HF
        clear ht
        by_cases hz : r = 0
        · have hd : ((r : Int) == 0) = true := by rw [hz]; rfl
          have EE := Lib.hid (HF.out (by rw [hz]; rfl))
          clear HN HF hz
          go_wp2
          go_ret
          exact ⟨by rw [EE.out]; rfl, rfl⟩
        · have hd : ((r : Int) == 0) = false := by rw [beq_eq_false_iff_ne]; omega
          replace HN := Lib.hid (HN.out (by rw [decide_eq_false hz]; rfl))
          clear HF hz
          go_wp2
          go_round
          case rel => exact ⟨j + 1, by omega, by go_num, HN.out⟩
          case measure => simp [intOf]; omega
    · have EE : Hid (frt lk a b = true) := Lib.hid (by
        unfold frt
        rw [List.all_eq_true]
        intro s hs
        exact HH.out s (by rw [List.mem_range] at hs; omega))
      obtain rfl : j = lk.length := by omega
      go_wp2
      go_ret
      exact ⟨by rw [EE.out]; rfl, rfl⟩
theorem spec_l07Back (v : Value) (lk : List Nat) (a b : Nat) (w : World) (h : Sl cI w v (li lk)) (h8 : lk.length ≤ 8) (hlt : ∀ x ∈ lk, x < 2 ^ 8) (ha : a < 256) (hb : b < 256) :
    Calls Try.prog 209 #[v, .int .i64 a, .int .i64 b] w fun e w' => e = .returned (.bool (bck lk a b)) ∧ w = w' := by
  obtain ⟨A, c, rfl⟩ := h.opn
  have HL := Lib.hid (li_length lk)
  rw [HL.out] at h ⊢
  have HX := Lib.hid (getD_lt hlt)
  have HI := Lib.hid (imgTo_lt hlt a)
  clear hlt
  go_enter Try.func209, Try.ntmps209
  go_wp2
  go_loop [7, 8] (fun t i => ∃ j : Nat, j ≤ lk.length ∧ i = .int .i64 j ∧ t = .int .i64 (imgTo lk a j : Nat)) (fun _ i => lk.length - (intOf i).toNat)
  case atStart => exact ⟨0, Nat.zero_le _, rfl, rfl⟩
  case round =>
    obtain ⟨j, hj, rfl, rfl⟩ := hrel
    have hq := HI.out j
    by_cases hlt : j < lk.length
    · have hlt1 : j < (li lk).length := by rw [HL.out]; exact hlt
      obtain ⟨b1, o, rfl, hbl, hc0⟩ := h.atI hlt1
      rw [li_get] at hc0
      have hm := HX.out j
      have HS : Hid (imgTo lk a (j + 1) = imgTo lk a j ||| if a.testBit j then lk.getD j 0 else 0) := Lib.hid rfl
      generalize imgTo lk a j = q at *
      generalize lk.getD j 0 = m at *
      have e2 := i64_or_nat q m (by omega) (by omega)
      go_wp2_with fail
      refine (spec_l01Bit a j _ (by omega) (by omega)).mono ?_
      rintro e w1 ⟨rfl, rfl⟩
      cases ht : a.testBit j
      · rw [if_neg (by rw [ht]; decide), Nat.or_zero] at HS
        clear ht
        go_wp2
        go_round
        case rel => exact ⟨j + 1, by omega, by go_num, by rw [HS.out]⟩
        case measure => simp [intOf]; omega
      · rw [if_pos ht] at HS
        clear ht
        go_wp2
        go_round
        case rel => exact ⟨j + 1, by omega, by go_num, by rw [HS.out]⟩
        case measure => simp [intOf]; omega
    · obtain rfl : j = lk.length := by omega
      have EE : Hid (bck lk a b = decide (andnot b (imgTo lk a lk.length) = 0)) := Lib.hid rfl
      generalize imgTo lk a lk.length = q at *
      have e2 := i64_andNot_nat b q (by omega) (by omega)
      have hd : decide (andnot b q = 0) = ((andnot b q : Int) == 0) := by rw [Bool.eq_iff_iff, decide_eq_true_eq, beq_iff_eq]; omega
      have HD := Lib.hid hd
      clear hd
      go_wp2
      go_ret
      exact ⟨by rw [EE.out, HD.out]; rfl, rfl⟩
end Go.Proofs.Ytgdmfihnbbgcoaa

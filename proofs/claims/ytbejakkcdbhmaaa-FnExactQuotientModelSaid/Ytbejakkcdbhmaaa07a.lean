/- Contracts of chapter 7, of the program: truths, image, forth, back. -/
import Derived.Test.YtbejakkcdbhmaaaM07
namespace Go.Proofs.Ytbejakkcdbhmaaa
open Go.RowKit
set_option linter.unusedVariables false
set_option linter.unusedSimpArgs false
theorem impl_truths (n : Int) (A0 : Option Addr) (m0 c0 : Nat) (v : Value) (us : List Nat) (x : Nat) (w : World) (h : Sl cI w v (li us)) (hl : us.length = 6) (hb : ∀ i, us.getD i 0 < 256) (hx : x ≤ 60) :
    Calls Try.prog 277 #[.agg #[.int .i64 n, .slice A0 m0 c0, v], .int .i64 x] w fun e w' => e = .returned (.int .i64 (tru us x : Nat)) ∧ Below w.heap.size w w' := by
  obtain ⟨A, c, rfl⟩ := h.opn
  have hlen : (li us).length = 6 := by rw [li_length, hl]
  rw [hlen] at h ⊢
  have hb0 := below_alloc' w (.cells #[.int .i64 n, .slice A0 m0 c0, .slice A 6 c] 77)
  have h0 := h.below hb0
  have HB := Lib.hid hb0
  have HU := Lib.hid hb
  have HL := Lib.hid hlen
  clear h hb0 hb hlen hl
  go_enter Try.func277, Try.ntmps277
  go_wp2
  go_loop [5, 11] (fun t i => ∃ j : Nat, j ≤ 6 ∧ i = .int .i64 j ∧ t = .int .i64 (msk (fun v => (us.getD v 0).testBit x) j : Nat)) (fun _ i => 6 - (intOf i).toNat)
  case atStart => exact ⟨0, Nat.zero_le _, rfl, rfl⟩
  case round =>
    obtain ⟨j, hj, rfl, rfl⟩ := hrel
    by_cases hlt : j < 6
    · have hlt' : j < (li us).length := by rw [HL.out]; exact hlt
      obtain ⟨b, o, rfl, hbl, hc0⟩ := h0.atI hlt'
      rw [li_get] at hc0
      have hy := HU.out j
      have HS : Hid (msk (fun v => (us.getD v 0).testBit x) (j + 1) = msk (fun v => (us.getD v 0).testBit x) j ||| if (us.getD j 0).testBit x = true then 2 ^ j else 0) := Lib.hid rfl
      have hb1 := msk_bound (fun v => (us.getD v 0).testBit x) hj (by decide)
      generalize msk (fun v => (us.getD v 0).testBit x) j = q at *
      generalize us.getD j 0 = y at *
      go_wp2_with fail
      refine (impl_has y x _ (by omega) (by omega)).mono ?_
      rintro e w1 ⟨rfl, rfl⟩
      cases ht : y.testBit x
      · rw [ht, if_neg (by decide), Nat.or_zero] at HS
        clear ht
        go_wp2
        go_round
        case rel => exact ⟨j + 1, by omega, by go_num, by rw [HS.out]⟩
        case measure => simp [intOf]; omega
      · rw [ht, if_pos rfl] at HS
        have e1 := wrap_two_pow (n := j) (by omega)
        have e2 := i64_or_nat q (2 ^ j) (by omega) (two_pow_lt (by omega))
        rw [← cast_two_pow] at e2
        clear ht
        go_wp2
        go_round
        case rel => exact ⟨j + 1, by omega, by go_num, by rw [HS.out]⟩
        case measure => simp [intOf]; omega
    · obtain rfl : j = 6 := by omega
      go_wp2
      go_ret
      exact ⟨rfl, HB.out⟩
theorem impl_image (v : Value) (lk : List Nat) (m : Nat) (w : World) (h : Sl cI w v (li lk)) (h8 : lk.length ≤ 8) (hb : ∀ x ∈ lk, x < 2 ^ 8) (hm : m < 2 ^ lk.length) :
    Calls Try.prog 296 #[v, .int .i64 m] w fun e w' => e = .returned (.int .i64 (img lk m : Nat)) ∧ Below w.heap.size w w' := by
  obtain ⟨A, c, rfl⟩ := h.opn
  have HL := Lib.hid (li_length lk)
  rw [HL.out] at h ⊢
  have hm256 := two_pow_256 h8
  have HM := Lib.hid hm
  have EI := Lib.hid (orL_img lk m hm h8)
  have HO := Lib.hid (orL_lt hb)
  have HX := Lib.hid (getD_lt hb)
  have HS := Lib.hid h
  clear h hb
  go_enter Try.func296, Try.ntmps296
  go_wp2_with fail
  refine (impl_membersOf m _ (by omega)).mono ?_
  rintro e w1 ⟨vm, rfl, ho, hb⟩
  obtain ⟨A2, c2, rfl⟩ := ho.opn
  have hms := ho.sl
  have hml := mems_length m
  have HMM := Lib.hid (fun x (hx : x ∈ mems m) => mems_mem HM.out hx)
  have h1 := HS.out.below hb
  have HB := Lib.hid hb
  clear ho hb hm hm256 HM
  generalize mems m = ms at *
  go_wp2
  go_loop [5, 11] (fun t i => ∃ j : Nat, j ≤ ms.length ∧ i = .int .i64 j ∧ t = .int .i64 (orL lk (ms.take j) : Nat)) (fun _ i => ms.length - (intOf i).toNat)
  case atStart => exact ⟨0, Nat.zero_le _, rfl, rfl⟩
  case round =>
    obtain ⟨j, hj, rfl, rfl⟩ := hrel
    by_cases hlt : j < ms.length
    · obtain ⟨b, o, rfl, hbl, hc0⟩ := hms.atI hlt
      obtain ⟨x, hxx, hxn⟩ := HMM.out ms[j] (List.getElem_mem hlt)
      have HE : Hid (orL lk (ms.take (j + 1)) = orL lk (ms.take j) ||| lk.getD x 0) := Lib.hid (by rw [List.take_succ_eq_append_getElem hlt, orL_snoc, hxx, Int.toNat_natCast])
      rw [hxx] at hc0
      have hx' : x < (li lk).length := by rw [HL.out]; exact hxn
      obtain ⟨b2, o2, rfl, hbl2, hd0⟩ := h1.atI hx'
      rw [li_get] at hd0
      have hq := HO.out (ms.take j)
      have hy := HX.out x
      clear hxx
      generalize orL lk (ms.take j) = q at *
      generalize lk.getD x 0 = y at *
      have e2 := i64_or_nat q y (by omega) (by omega)
      go_wp2
      go_round
      case rel => exact ⟨j + 1, by omega, by go_num, by rw [HE.out]⟩
      case measure => simp [intOf]; omega
    · have HE : Hid (orL lk (ms.take j) = img lk m) := Lib.hid (by rw [List.take_of_length_le (by omega), EI.out])
      go_wp2
      go_ret
      exact ⟨by rw [HE.out]; rfl, HB.out⟩
theorem impl_forth (ns us ks ts lk : List Nat) (A0 A1 B0 B1 : Option Addr) (c0 c1 d0 d1 : Nat) (v : Value) (x y : Nat) (w : World) (ha : Sl cI w (.slice A0 ns.length c0) (li ns)) (hb : Sl cI w (.slice B0 ks.length d0) (li ks)) (h : Sl cI w v (li lk))
    (hr : RelN ns) (hr2 : RelN ks) (hl : lk.length = ns.length) (hlt : ∀ x ∈ lk, x < 2 ^ 8) (hx : x < ns.length) (hy : y < ks.length) :
    Calls Try.prog 279 #[.agg #[.int .i64 ns.length, .slice A0 ns.length c0, .slice A1 6 c1], .agg #[.int .i64 ks.length, .slice B0 ks.length d0, .slice B1 6 d1], v, .int .i64 x, .int .i64 y] w
      fun e w' => e = .returned (.bool (frt lk (ns.getD x 0) (ks.getD y 0))) ∧ Below w.heap.size w w' := by
  obtain ⟨A, c, rfl⟩ := h.opn
  have HL := Lib.hid (li_length lk)
  have HLN := Lib.hid (li_length ns)
  have HLK := Lib.hid (li_length ks)
  rw [HL.out] at h ⊢
  have hx' : x < (li ns).length := by rw [HLN.out]; exact hx
  have hy' : y < (li ks).length := by rw [HLK.out]; exact hy
  have h8 := hr.1
  have hk8 := hr2.1
  have ha2 := getD_lt hr.2 x
  have hy256 := Nat.lt_of_lt_of_le (getD_lt hr2.2 y) (two_pow_256 hk8)
  obtain ⟨m, hmm⟩ : ∃ m, ns.getD x 0 = m := ⟨_, rfl⟩
  obtain ⟨q, hqq⟩ : ∃ q, ks.getD y 0 = q := ⟨_, rfl⟩
  have EQ : Hid (frt lk (ns.getD x 0) (ks.getD y 0) = frt lk m q) := Lib.hid (by rw [hmm, hqq])
  rw [hmm] at ha2
  rw [hqq] at hy256
  have HM0 := Lib.hid hmm
  have HQ0 := Lib.hid hqq
  clear hmm hqq
  have EF := Lib.hid (frt_mems lk m q (by rw [hl]; exact ha2) (by omega))
  have hx256 := Nat.lt_of_lt_of_le ha2 (two_pow_256 h8)
  have HMM := Lib.hid (fun z (hz : z ∈ mems m) => mems_mem (hl ▸ ha2) hz)
  have HX := Lib.hid (getD_lt hlt)
  obtain ⟨M1, hM1⟩ : ∃ M : Array Value, #[.int .i64 (ns.length : Int), .slice A0 ns.length c0, .slice A1 6 c1] = M := ⟨_, rfl⟩
  have hb0 := below_alloc' w (.cells #[.int .i64 ns.length, .slice A0 ns.length c0, .slice A1 6 c1] 77)
  have hk0 := Blk.new w 77 #[.int .i64 ns.length, .slice A0 ns.length c0, .slice A1 6 c1]
  have hb1 := below_alloc' (w.alloc (.cells #[.int .i64 ns.length, .slice A0 ns.length c0, .slice A1 6 c1] 77)) (.cells #[.int .i64 ks.length, .slice B0 ks.length d0, .slice B1 6 d1] 77)
  have hk1 : Blk _ (w.heap.size + 1) _ _ := Blk.new' (w.alloc (.cells #[.int .i64 ns.length, .slice A0 ns.length c0, .slice A1 6 c1] 77)) 77 #[.int .i64 ks.length, .slice B0 ks.length d0, .slice B1 6 d1] (by simp)
  have HB := Lib.hid (bthen hb0 hb1)
  have HK0 := Lib.hid (hk0.below hb1 hk0.lt)
  have HK1 := Lib.hid hk1
  have HA := Lib.hid ((ha.below hb0).below hb1)
  have HBk := Lib.hid ((hb.below hb0).below hb1)
  have HS := Lib.hid ((h.below hb0).below hb1)
  clear h ha hb hb0 hb1 hk0 hk1 hlt hr hr2 hM1 ha2
  go_enter Try.func279, Try.ntmps279
  go_upto_region 1 with fail
  generalize World.alloc (w.alloc _) _ = W at *
  obtain ⟨b, o, rfl, hbl, hc0⟩ := HA.out.atI hx'
  rw [li_get, HM0.out] at hc0
  have k0 := HK0.out.cell
  go_wp2_with fail
  refine (impl_membersOf m _ (by omega)).mono ?_
  rintro e w1 ⟨vm, rfl, ho, hbm⟩
  obtain ⟨A2, c2, rfl⟩ := ho.opn
  have HO := Lib.hid ho.sl
  have hml := mems_length m
  have HS1 := Lib.hid (HS.out.below hbm)
  have HBk1 := Lib.hid (HBk.out.below hbm)
  have HK3 := Lib.hid (HK1.out.below hbm HK1.out.lt)
  have HB1 := Lib.hid (bthen HB.out hbm)
  clear ho hbm k0 hc0
  generalize mems m = ms at *
  go_wp2
  go_loopw [21] (fun i wr => ∃ j : Nat, j ≤ ms.length ∧ i = .int .i64 j ∧ (∀ (k : Nat) (hk : k < ms.length), k < j → ¬ lk.getD ms[k].toNat 0 &&& q = 0) ∧ Below w1.heap.size w1 wr) (fun i _ => ms.length - (intOf i).toNat)
  case atStart => exact ⟨0, Nat.zero_le _, rfl, fun k _ hk => by omega, Below.refl _ _⟩
  case round =>
    obtain ⟨j, hj, rfl, hh, hbw⟩ := hrel
    have HH := Lib.hid hh
    clear hh
    by_cases hlt : j < ms.length
    · obtain ⟨b3, o3, rfl, hbl3, hc3⟩ := (HO.out.below hbw).atI hlt
      obtain ⟨s, hss, hsn⟩ := HMM.out ms[j] (List.getElem_mem hlt)
      have hs' : s < (li lk).length := by rw [HL.out]; exact hsn
      obtain ⟨b4, o4, rfl, hbl4, hc4⟩ := (HS1.out.below hbw).atI hs'
      obtain ⟨b5, o5, rfl, hbl5, hc5⟩ := (HBk1.out.below hbw).atI hy'
      have hk5 := HK3.out.below hbw HK3.out.lt
      have k1 := hk5.cell 1
      rw [li_get] at hc4
      rw [li_get, HQ0.out] at hc5
      have hHH : lk.getD ms[j].toNat 0 = lk.getD s 0 := by rw [hss, Int.toNat_natCast]
      rw [hss] at hc3
      have hp := HX.out s
      have i1 : (s : Int) < (lk.length : Int) := by omega
      have i2 : (y : Int) < (ks.length : Int) := by omega
      have e2 := i64_and_nat (lk.getD s 0) q (by omega) (by omega)
      have HBw := Lib.hid hbw
      by_cases hz : lk.getD s 0 &&& q = 0
      · have EE : Hid (frt lk m q = false) := Lib.hid (by
          rw [EF.out, ← Bool.not_eq_true, List.all_eq_true]
          intro hall
          have := hall ms[j] (List.getElem_mem hlt)
          rw [hHH, hz] at this
          exact absurd this (by decide))
        have hd : ((((lk.getD s 0 &&& q : Nat)) : Int) == 0) = true := by rw [hz]; rfl
        generalize lk.getD s 0 &&& q = r at *
        generalize lk.getD s 0 = p at *
        clear hz hbw hk5 hss hHH
        go_wp2
        go_quiet (fail)
        go_wp2
        go_ret
        exact ⟨by rw [EQ.out, EE.out]; rfl, bthen HB1.out (below_drewN HBw.out _)⟩
      · have HN : Hid (∀ (k : Nat) (hk : k < ms.length), k < j + 1 → ¬ lk.getD ms[k].toNat 0 &&& q = 0) := Lib.hid (fun k hk hkj => by
          rcases Nat.lt_or_ge k j with h1 | h1
          · exact HH.out k hk h1
          · obtain rfl : k = j := by omega
            rw [hHH]; exact hz)
        have hd : ((((lk.getD s 0 &&& q : Nat)) : Int) == 0) = false := by rw [beq_eq_false_iff_ne]; omega
        clear HH EF
        generalize lk.getD s 0 &&& q = r at *
        generalize lk.getD s 0 = p at *
        clear hz hbw hk5 hss hHH
        go_wp2
        go_quiet (fail)
        go_wp2
        go_roundw
        case rel => exact ⟨j + 1, by omega, by go_num, HN.out, below_drewN HBw.out _⟩
        case measure => simp [intOf]; omega
    · have EE : Hid (frt lk m q = true) := Lib.hid (by
        rw [EF.out, List.all_eq_true]
        intro z hz
        obtain ⟨k, hk, rfl⟩ := List.mem_iff_getElem.1 hz
        rw [Bool.not_eq_true', decide_eq_false_iff_not]
        exact HH.out k hk (by omega))
      have HBw := Lib.hid hbw
      clear hbw
      go_wp2
      go_ret
      exact ⟨by rw [EQ.out, EE.out]; rfl, bthen HB1.out HBw.out⟩
end Go.Proofs.Ytbejakkcdbhmaaa

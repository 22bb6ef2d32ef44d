/- Joined of several texts: 07a, 07b, 07c. -/
import Derived.Test.YtomojninngdbeaaGreatSA
import Derived.StillTailTactics
import Derived.Deep.RegionHeld3
namespace Go.Proofs.YtomojninngdbeaaGreat
open Go.RowKit
set_option linter.unusedVariables false
set_option linter.unusedSimpArgs false
/- Contracts of chapter 7, of the program: truths, image, forth, back. -/
theorem impl_truths (n : Int) (A0 : Option Addr) (m0 c0 : Nat) (v : Value) (us : List Nat) (x : Nat) (w : World) (h : Sl cI w v (li us)) (hl : us.length = 6) (hb : ∀ i, us.getD i 0 < 256) (hx : x ≤ 60) :
    Calls Tryz.prog 120 #[.agg #[.int .i64 n, .slice A0 m0 c0, v], .int .i64 x] w fun e w' => e = .returned (.int .i64 (tru us x : Nat)) ∧ Below w.heap.size w w' := by
  obtain ⟨A, c, rfl⟩ := h.opn
  have hlen : (li us).length = 6 := by rw [li_length, hl]
  rw [hlen] at h ⊢
  have hb0 := below_alloc' w (.cells #[.int .i64 n, .slice A0 m0 c0, .slice A 6 c] 50)
  have h0 := h.below hb0
  have HB := Lib.hid hb0
  have HU := Lib.hid hb
  have HL := Lib.hid hlen
  clear h hb0 hb hlen hl
  go_enter Tryz.func120, Tryz.ntmps120
  go_wp2
  go_loop [5, 11] (fun t i => ∃ j : Nat, j ≤ 6 ∧ i = .int .i64 j ∧ t = .int .i64 (msk (fun v => (us.getD v 0).testBit x) j : Nat)) (fun _ i => 6 - (intOf i).toNat)
  case atStart => exact ⟨0, Nat.zero_le _, rfl, rfl⟩
  case round =>
    obtain ⟨j, hj, rfl, rfl⟩ := hrel
    by_cases hlt : j < 6
    · have hlt' : j < (li us).length := by rw [HL.out]; exact hlt
      obtain ⟨b, o, rfl, hbl, hc0⟩ := h0.atI hlt'
      rw [li_get] at hc0
      have hy := HU.out j
      have HS : Hid (msk (fun v => (us.getD v 0).testBit x) (j + 1) = msk (fun v => (us.getD v 0).testBit x) j ||| if (us.getD j 0).testBit x = true then 2 ^ j else 0) := Lib.hid rfl
      have hb1 := msk_bound (fun v => (us.getD v 0).testBit x) hj (by decide)
      generalize msk (fun v => (us.getD v 0).testBit x) j = q at *
      generalize us.getD j 0 = y at *
      go_wp2_with fail
      refine (impl_has y x _ (by omega) (by omega)).mono ?_
      rintro e w1 ⟨rfl, rfl⟩
      cases ht : y.testBit x
      · rw [ht, if_neg (by decide), Nat.or_zero] at HS
        clear ht
        go_wp2
        go_round
        case rel => exact ⟨j + 1, by omega, by go_num, by rw [HS.out]⟩
        case measure => simp [intOf]; omega
      · rw [ht, if_pos rfl] at HS
        have e1 := wrap_two_pow (n := j) (by omega)
        have e2 := i64_or_nat q (2 ^ j) (by omega) (two_pow_lt (by omega))
        rw [← cast_two_pow] at e2
        clear ht
        go_wp2
        go_round
        case rel => exact ⟨j + 1, by omega, by go_num, by rw [HS.out]⟩
        case measure => simp [intOf]; omega
    · obtain rfl : j = 6 := by omega
      go_wp2
      go_ret
      exact ⟨rfl, HB.out⟩
theorem impl_image (v : Value) (lk : List Nat) (m : Nat) (w : World) (h : Sl cI w v (li lk)) (h8 : lk.length ≤ 8) (hb : ∀ x ∈ lk, x < 2 ^ 8) (hm : m < 2 ^ lk.length) :
    Calls Tryz.prog 74 #[v, .int .i64 m] w fun e w' => e = .returned (.int .i64 (img lk m : Nat)) ∧ Below w.heap.size w w' := by
  obtain ⟨A, c, rfl⟩ := h.opn
  have HL := Lib.hid (li_length lk)
  rw [HL.out] at h ⊢
  have hm256 := two_pow_256 h8
  have HM := Lib.hid hm
  have EI := Lib.hid (orL_img lk m hm h8)
  have HO := Lib.hid (orL_lt hb)
  have HX := Lib.hid (getD_lt hb)
  have HS := Lib.hid h
  clear h hb
  go_enter Tryz.func74, Tryz.ntmps74
  go_wp2_with fail
  refine (impl_membersOf m _ (by omega)).mono ?_
  rintro e w1 ⟨vm, rfl, ho, hb⟩
  obtain ⟨A2, c2, rfl⟩ := ho.opn
  have hms := ho.sl
  have hml := mems_length m
  have HMM := Lib.hid (fun x (hx : x ∈ mems m) => mems_mem HM.out hx)
  have h1 := HS.out.below hb
  have HB := Lib.hid hb
  clear ho hb hm hm256 HM
  generalize mems m = ms at *
  go_wp2
  go_loop [5, 11] (fun t i => ∃ j : Nat, j ≤ ms.length ∧ i = .int .i64 j ∧ t = .int .i64 (orL lk (ms.take j) : Nat)) (fun _ i => ms.length - (intOf i).toNat)
  case atStart => exact ⟨0, Nat.zero_le _, rfl, rfl⟩
  case round =>
    obtain ⟨j, hj, rfl, rfl⟩ := hrel
    by_cases hlt : j < ms.length
    · obtain ⟨b, o, rfl, hbl, hc0⟩ := hms.atI hlt
      obtain ⟨x, hxx, hxn⟩ := HMM.out ms[j] (List.getElem_mem hlt)
      have HE : Hid (orL lk (ms.take (j + 1)) = orL lk (ms.take j) ||| lk.getD x 0) := Lib.hid (by rw [List.take_succ_eq_append_getElem hlt, orL_snoc, hxx, Int.toNat_natCast])
      rw [hxx] at hc0
      have hx' : x < (li lk).length := by rw [HL.out]; exact hxn
      obtain ⟨b2, o2, rfl, hbl2, hd0⟩ := h1.atI hx'
      rw [li_get] at hd0
      have hq := HO.out (ms.take j)
      have hy := HX.out x
      clear hxx
      generalize orL lk (ms.take j) = q at *
      generalize lk.getD x 0 = y at *
      have e2 := i64_or_nat q y (by omega) (by omega)
      go_wp2
      go_round
      case rel => exact ⟨j + 1, by omega, by go_num, by rw [HE.out]⟩
      case measure => simp [intOf]; omega
    · have HE : Hid (orL lk (ms.take j) = img lk m) := Lib.hid (by rw [List.take_of_length_le (by omega), EI.out])
      go_wp2
      go_ret
      exact ⟨by rw [HE.out]; rfl, HB.out⟩
theorem impl_forth (ns us ks ts lk : List Nat) (A0 A1 B0 B1 : Option Addr) (c0 c1 d0 d1 : Nat) (v : Value) (x y : Nat) (w : World) (ha : Sl cI w (.slice A0 ns.length c0) (li ns)) (hb : Sl cI w (.slice B0 ks.length d0) (li ks)) (h : Sl cI w v (li lk))
    (hr : RelN ns) (hr2 : RelN ks) (hl : lk.length = ns.length) (hlt : ∀ x ∈ lk, x < 2 ^ 8) (hx : x < ns.length) (hy : y < ks.length) :
    Calls Tryz.prog 122 #[.agg #[.int .i64 ns.length, .slice A0 ns.length c0, .slice A1 6 c1], .agg #[.int .i64 ks.length, .slice B0 ks.length d0, .slice B1 6 d1], v, .int .i64 x, .int .i64 y] w
      fun e w' => e = .returned (.bool (frt lk (ns.getD x 0) (ks.getD y 0))) ∧ Below w.heap.size w w' := by
  obtain ⟨A, c, rfl⟩ := h.opn
  have HL := Lib.hid (li_length lk)
  have HLN := Lib.hid (li_length ns)
  have HLK := Lib.hid (li_length ks)
  rw [HL.out] at h ⊢
  have hx' : x < (li ns).length := by rw [HLN.out]; exact hx
  have hy' : y < (li ks).length := by rw [HLK.out]; exact hy
  have h8 := hr.1
  have hk8 := hr2.1
  have ha2 := getD_lt hr.2 x
  have hy256 := Nat.lt_of_lt_of_le (getD_lt hr2.2 y) (two_pow_256 hk8)
  obtain ⟨m, hmm⟩ : ∃ m, ns.getD x 0 = m := ⟨_, rfl⟩
  obtain ⟨q, hqq⟩ : ∃ q, ks.getD y 0 = q := ⟨_, rfl⟩
  have EQ : Hid (frt lk (ns.getD x 0) (ks.getD y 0) = frt lk m q) := Lib.hid (by rw [hmm, hqq])
  rw [hmm] at ha2
  rw [hqq] at hy256
  have HM0 := Lib.hid hmm
  have HQ0 := Lib.hid hqq
  clear hmm hqq
  have EF := Lib.hid (frt_mems lk m q (by rw [hl]; exact ha2) (by omega))
  have hx256 := Nat.lt_of_lt_of_le ha2 (two_pow_256 h8)
  have HMM := Lib.hid (fun z (hz : z ∈ mems m) => mems_mem (hl ▸ ha2) hz)
  have HX := Lib.hid (getD_lt hlt)
  obtain ⟨M1, hM1⟩ : ∃ M : Array Value, #[.int .i64 (ns.length : Int), .slice A0 ns.length c0, .slice A1 6 c1] = M := ⟨_, rfl⟩
  have hb0 := below_alloc' w (.cells #[.int .i64 ns.length, .slice A0 ns.length c0, .slice A1 6 c1] 50)
  have hk0 := Blk.new w 50 #[.int .i64 ns.length, .slice A0 ns.length c0, .slice A1 6 c1]
  have hb1 := below_alloc' (w.alloc (.cells #[.int .i64 ns.length, .slice A0 ns.length c0, .slice A1 6 c1] 50)) (.cells #[.int .i64 ks.length, .slice B0 ks.length d0, .slice B1 6 d1] 50)
  have hk1 : Blk _ (w.heap.size + 1) _ _ := Blk.new' (w.alloc (.cells #[.int .i64 ns.length, .slice A0 ns.length c0, .slice A1 6 c1] 50)) 50 #[.int .i64 ks.length, .slice B0 ks.length d0, .slice B1 6 d1] (by simp)
  have HB := Lib.hid (bthen hb0 hb1)
  have HK0 := Lib.hid (hk0.below hb1 hk0.lt)
  have HK1 := Lib.hid hk1
  have HA := Lib.hid ((ha.below hb0).below hb1)
  have HBk := Lib.hid ((hb.below hb0).below hb1)
  have HS := Lib.hid ((h.below hb0).below hb1)
  clear h ha hb hb0 hb1 hk0 hk1 hlt hr hr2 hM1 ha2
  go_enter Tryz.func122, Tryz.ntmps122
  go_upto_region 1 with fail
  generalize World.alloc (w.alloc _) _ = W at *
  obtain ⟨b, o, rfl, hbl, hc0⟩ := HA.out.atI hx'
  rw [li_get, HM0.out] at hc0
  have k0 := HK0.out.cell
  go_wp2_with fail
  refine (impl_membersOf m _ (by omega)).mono ?_
  rintro e w1 ⟨vm, rfl, ho, hbm⟩
  obtain ⟨A2, c2, rfl⟩ := ho.opn
  have HO := Lib.hid ho.sl
  have hml := mems_length m
  have HS1 := Lib.hid (HS.out.below hbm)
  have HBk1 := Lib.hid (HBk.out.below hbm)
  have HK3 := Lib.hid (HK1.out.below hbm HK1.out.lt)
  have HB1 := Lib.hid (bthen HB.out hbm)
  clear ho hbm k0 hc0
  generalize mems m = ms at *
  go_wp2
  go_loopw [21] (fun i wr => ∃ j : Nat, j ≤ ms.length ∧ i = .int .i64 j ∧ (∀ (k : Nat) (hk : k < ms.length), k < j → ¬ lk.getD ms[k].toNat 0 &&& q = 0) ∧ Below w1.heap.size w1 wr) (fun i _ => ms.length - (intOf i).toNat)
  case atStart => exact ⟨0, Nat.zero_le _, rfl, fun k _ hk => by omega, Below.refl _ _⟩
  case round =>
    obtain ⟨j, hj, rfl, hh, hbw⟩ := hrel
    have HH := Lib.hid hh
    clear hh
    by_cases hlt : j < ms.length
    · obtain ⟨b3, o3, rfl, hbl3, hc3⟩ := (HO.out.below hbw).atI hlt
      obtain ⟨s, hss, hsn⟩ := HMM.out ms[j] (List.getElem_mem hlt)
      have hs' : s < (li lk).length := by rw [HL.out]; exact hsn
      obtain ⟨b4, o4, rfl, hbl4, hc4⟩ := (HS1.out.below hbw).atI hs'
      obtain ⟨b5, o5, rfl, hbl5, hc5⟩ := (HBk1.out.below hbw).atI hy'
      have hk5 := HK3.out.below hbw HK3.out.lt
      have k1 := hk5.cell 1
      rw [li_get] at hc4
      rw [li_get, HQ0.out] at hc5
      have hHH : lk.getD ms[j].toNat 0 = lk.getD s 0 := by rw [hss, Int.toNat_natCast]
      rw [hss] at hc3
      have hp := HX.out s
      have i1 : (s : Int) < (lk.length : Int) := by omega
      have i2 : (y : Int) < (ks.length : Int) := by omega
      have e2 := i64_and_nat (lk.getD s 0) q (by omega) (by omega)
      have HBw := Lib.hid hbw
      by_cases hz : lk.getD s 0 &&& q = 0
      · have EE : Hid (frt lk m q = false) := Lib.hid (by
          rw [EF.out, ← Bool.not_eq_true, List.all_eq_true]
          intro hall
          have := hall ms[j] (List.getElem_mem hlt)
          rw [hHH, hz] at this
          exact absurd this (by decide))
        have hd : ((((lk.getD s 0 &&& q : Nat)) : Int) == 0) = true := by rw [hz]; rfl
        generalize lk.getD s 0 &&& q = r at *
        generalize lk.getD s 0 = p at *
        clear hz hbw hk5 hss hHH
        go_wp2
        go_quiet (fail)
        go_wp2
        go_ret
        exact ⟨by rw [EQ.out, EE.out]; rfl, bthen HB1.out (below_drewN HBw.out _)⟩
      · have HN : Hid (∀ (k : Nat) (hk : k < ms.length), k < j + 1 → ¬ lk.getD ms[k].toNat 0 &&& q = 0) := Lib.hid (fun k hk hkj => by
          rcases Nat.lt_or_ge k j with h1 | h1
          · exact HH.out k hk h1
          · obtain rfl : k = j := by omega
            rw [hHH]; exact hz)
        have hd : ((((lk.getD s 0 &&& q : Nat)) : Int) == 0) = false := by rw [beq_eq_false_iff_ne]; omega
        clear HH EF
        generalize lk.getD s 0 &&& q = r at *
        generalize lk.getD s 0 = p at *
        clear hz hbw hk5 hss hHH
        go_wp2
        go_quiet (fail)
        go_wp2
        go_roundw
        case rel => exact ⟨j + 1, by omega, by go_num, HN.out, below_drewN HBw.out _⟩
        case measure => simp [intOf]; omega
    · have EE : Hid (frt lk m q = true) := Lib.hid (by
        rw [EF.out, List.all_eq_true]
        intro z hz
        obtain ⟨k, hk, rfl⟩ := List.mem_iff_getElem.1 hz
        rw [Bool.not_eq_true', decide_eq_false_iff_not]
        exact HH.out k hk (by omega))
      have HBw := Lib.hid hbw
      clear hbw
      go_wp2
      go_ret
      exact ⟨by rw [EQ.out, EE.out]; rfl, bthen HB1.out HBw.out⟩
/- Contracts of chapter 7, of the program: back, linkOf. -/
theorem impl_back (ns us ks ts lk : List Nat) (A0 A1 B0 B1 : Option Addr) (c0 c1 d0 d1 : Nat) (v : Value) (x y : Nat) (w : World) (ha : Sl cI w (.slice A0 ns.length c0) (li ns)) (hb : Sl cI w (.slice B0 ks.length d0) (li ks)) (h : Sl cI w v (li lk))
    (hr : RelN ns) (hr2 : RelN ks) (hl : lk.length = ns.length) (hlt : ∀ x ∈ lk, x < 2 ^ 8) (hx : x < ns.length) (hy : y < ks.length) :
    Calls Tryz.prog 123 #[.agg #[.int .i64 ns.length, .slice A0 ns.length c0, .slice A1 6 c1], .agg #[.int .i64 ks.length, .slice B0 ks.length d0, .slice B1 6 d1], v, .int .i64 x, .int .i64 y] w
      fun e w' => e = .returned (.bool (bck lk (ns.getD x 0) (ks.getD y 0))) ∧ Below w.heap.size w w' := by
  have HLN := Lib.hid (li_length ns)
  have HLK := Lib.hid (li_length ks)
  have hx' : x < (li ns).length := by rw [HLN.out]; exact hx
  have hy' : y < (li ks).length := by rw [HLK.out]; exact hy
  have h8 := hr.1
  have hk8 := hr2.1
  have ha2 := getD_lt hr.2 x
  have hy256 := Nat.lt_of_lt_of_le (getD_lt hr2.2 y) (two_pow_256 hk8)
  obtain ⟨m, hmm⟩ : ∃ m, ns.getD x 0 = m := ⟨_, rfl⟩
  obtain ⟨q, hqq⟩ : ∃ q, ks.getD y 0 = q := ⟨_, rfl⟩
  have EQ : Hid (bck lk (ns.getD x 0) (ks.getD y 0) = decide (andnot q (img lk m) = 0)) := Lib.hid (by rw [hmm, hqq]; rfl)
  rw [hmm] at ha2
  rw [hqq] at hy256
  have HM0 := Lib.hid hmm
  have HQ0 := Lib.hid hqq
  clear hmm hqq
  have hg : img lk m < 2 ^ 8 := imgTo_lt hlt _ _
  have HI := Lib.hid (fun W (hW : Sl cI W v (li lk)) => impl_image v lk m W hW (by omega) hlt (by rw [hl]; exact ha2))
  have HW := Lib.hid (fun W => impl_within q (img lk m) W (by omega) (by omega))
  have hb0 := below_alloc' w (.cells #[.int .i64 ns.length, .slice A0 ns.length c0, .slice A1 6 c1] 50)
  have hk0 := Blk.new w 50 #[.int .i64 ns.length, .slice A0 ns.length c0, .slice A1 6 c1]
  have hb1 := below_alloc' (w.alloc (.cells #[.int .i64 ns.length, .slice A0 ns.length c0, .slice A1 6 c1] 50)) (.cells #[.int .i64 ks.length, .slice B0 ks.length d0, .slice B1 6 d1] 50)
  have hk1 : Blk _ (w.heap.size + 1) _ _ := Blk.new' (w.alloc (.cells #[.int .i64 ns.length, .slice A0 ns.length c0, .slice A1 6 c1] 50)) 50 #[.int .i64 ks.length, .slice B0 ks.length d0, .slice B1 6 d1] (by simp)
  have HB := Lib.hid (bthen hb0 hb1)
  have HK0 := Lib.hid (hk0.below hb1 hk0.lt)
  have HK1 := Lib.hid hk1
  have HA := Lib.hid ((ha.below hb0).below hb1)
  have HBk := Lib.hid ((hb.below hb0).below hb1)
  have HS := Lib.hid ((h.below hb0).below hb1)
  clear h ha hb hb0 hb1 hk0 hk1 hlt hr hr2 hg
  generalize img lk m = g at *
  go_enter Tryz.func123, Tryz.ntmps123
  go_upto_region 1 with fail
  generalize World.alloc (w.alloc _) _ = W at *
  obtain ⟨b, o, rfl, hbl, hc0⟩ := HA.out.atI hx'
  obtain ⟨b5, o5, rfl, hbl5, hc5⟩ := HBk.out.atI hy'
  rw [li_get, HM0.out] at hc0
  rw [li_get, HQ0.out] at hc5
  have k0 : W.cell? ⟨w.heap.size, 1, none⟩ = some (.slice (some ⟨b, o, none⟩) ns.length c0) := HK0.out.cell 1
  have k1 : W.cell? ⟨w.heap.size + 1, 1, none⟩ = some (.slice (some ⟨b5, o5, none⟩) ks.length d0) := HK1.out.cell 1
  have l0 := HK0.out.lt
  have l1 := HK1.out.lt
  first | go_region_held3 (fun w' => w'.cell? ⟨w.heap.size, 1, none⟩ = some (.slice (some ⟨b, o, none⟩) ns.length c0) ∧ w'.cell? ⟨w.heap.size + 1, 1, none⟩ = some (.slice (some ⟨b5, o5, none⟩) ks.length d0) ∧ w'.cell? ⟨b, o + x, none⟩ = some (.int .i64 m) ∧ w'.cell? ⟨b5, o5 + y, none⟩ = some (.int .i64 q)) (first | exact ⟨k0', k1', hc0', hc5'⟩ | exact ⟨k0, k1, hc0, hc5⟩ | (simp [*]; done)) (first | (go_at_call 74; refine (HI.out _ (HS.out.below (below_drewN (Below.refl _ _) 1))).mono ?_; rintro e w2 ⟨rfl, hb2⟩; have hb3 : Below W.heap.size W w2 := (below_drewN (Below.refl _ _) 1).trans hb2; have k0' := (hb3.cell (p := ⟨w.heap.size, 1, none⟩) l0).trans k0; have k1' := (hb3.cell (p := ⟨w.heap.size + 1, 1, none⟩) l1).trans k1; have hc0' := (hb3.cell (p := ⟨b, o + x, none⟩) hbl).trans hc0; have hc5' := (hb3.cell (p := ⟨b5, o5 + y, none⟩) hbl5).trans hc5) | (go_at_call 113; refine (HW.out _).mono ?_; rintro e w3 ⟨rfl, rfl⟩)) | fail
  all_goals
    have HB3 := Lib.hid (bthen HB.out hb3)
    clear k0' k1' hc0' hc5' hb2 hb3
    go_wp2
    go_ret
    exact ⟨by rw [EQ.out]; rfl, HB3.out⟩
/-- linkOf's list: the rows below x are whole, row x is made up to y -/
def lrow (n k : Nat) (p : Nat → Nat → Bool) (x y : Nat) : List Nat := (List.range n).map fun i => if i < x then msk (p i) k else if i = x then msk (p x) y else 0
theorem lrow_length (n k : Nat) (p : Nat → Nat → Bool) (x y : Nat) : (lrow n k p x y).length = n := by simp [lrow]
theorem lrow_zero (n k : Nat) (p : Nat → Nat → Bool) : lrow n k p 0 0 = List.replicate n 0 := by
  apply List.ext_getElem (by simp [lrow])
  intro i h1 h2
  simp only [lrow, List.getElem_map, List.getElem_range, List.getElem_replicate]
  rw [if_neg (by omega)]
  split <;> rfl
theorem lrow_next (n k : Nat) (p : Nat → Nat → Bool) (x : Nat) : lrow n k p (x + 1) 0 = lrow n k p x k := by
  unfold lrow
  refine List.map_congr_left fun i _ => ?_
  by_cases h : i < x
  · rw [if_pos (by omega), if_pos h]
  · by_cases h2 : i = x
    · subst h2; rw [if_pos (by omega), if_neg (by omega), if_pos rfl]
    · rw [if_neg (by omega), if_neg h, if_neg h2]
      split <;> rfl
theorem lrow_end (n k : Nat) (p : Nat → Nat → Bool) (y : Nat) : lrow n k p n y = lnk n k p := by
  unfold lrow lnk
  refine List.map_congr_left fun i hi => ?_
  rw [if_pos (List.mem_range.1 hi)]
theorem lrow_getD {n k x y : Nat} (p : Nat → Nat → Bool) (h : x < n) : (lrow n k p x y).getD x 0 = msk (p x) y := by
  unfold lrow
  rw [List.getD_eq_getElem?_getD, List.getElem?_map, List.getElem?_range h]
  simp
theorem lrow_set (n k : Nat) (p : Nat → Nat → Bool) (x y : Nat) : (lrow n k p x y).set x (msk (p x) (y + 1)) = lrow n k p x (y + 1) := by
  apply List.ext_getElem (by simp [lrow])
  intro i h1 h2
  rw [List.getElem_set]
  simp only [lrow, List.getElem_map, List.getElem_range]
  by_cases h : x = i
  · subst h; rw [if_pos rfl, if_neg (by omega), if_pos rfl]
  · rw [if_neg h]
    by_cases h3 : i < x
    · rw [if_pos h3, if_pos h3]
    · rw [if_neg h3, if_neg h3, if_neg (fun e => h e.symm), if_neg (fun e => h e.symm)]
theorem lrow_no {n k x y : Nat} {p : Nat → Nat → Bool} (h : p x y = false) : lrow n k p x (y + 1) = lrow n k p x y := by
  unfold lrow
  refine List.map_congr_left fun i _ => ?_
  by_cases h1 : i < x
  · rw [if_pos h1, if_pos h1]
  · rw [if_neg h1, if_neg h1]
    by_cases h2 : i = x
    · rw [if_pos h2, if_pos h2]
      show msk (p x) y ||| (if p x y then 2 ^ y else 0) = _
      rw [h]; simp
    · rw [if_neg h2, if_neg h2]
set_option maxRecDepth 100000 in
theorem impl_linkOf (n k : Nat) (A0 A1 B0 B1 : Option Addr) (a0 a1 b0 b1 c0 c1 d0 d1 : Nat) (f : FuncId) (cap : Array Value) (p : Nat → Nat → Bool) (w : World) (hn : n ≤ 8) (hk : k ≤ 8)
    (he : ∀ (args : Array Value) (w : World), (callFunc f args).run Tryz.prog w = .ok (.enter f args) w)
    (hf : ∀ w', Below w.heap.size w w' → ∀ (x y : Nat), x < n → y < k → Calls Tryz.prog f (#[.int .i64 x, .int .i64 y] ++ cap) w' fun e w'' => e = .returned (.bool (p x y)) ∧ Below w'.heap.size w' w'') :
    Calls Tryz.prog 118 #[.agg #[.int .i64 n, .slice A0 a0 c0, .slice A1 a1 c1], .agg #[.int .i64 k, .slice B0 b0 d0, .slice B1 b1 d1], .func (.func f) #[] cap] w
      fun e w' => ∃ A c, e = .returned (.slice A n c) ∧ Ow cI 2 w.heap.size w' (.slice A n c) (li (lnk n k p)) ∧ Below w.heap.size w w' := by
  have hb0 := below_alloc' w (.cells #[.int .i64 n, .slice A0 a0 c0, .slice A1 a1 c1] 50)
  have hk0 := Blk.new w 50 #[.int .i64 n, .slice A0 a0 c0, .slice A1 a1 c1]
  have hb1 := below_alloc' (w.alloc (.cells #[.int .i64 n, .slice A0 a0 c0, .slice A1 a1 c1] 50)) (.cells #[.int .i64 k, .slice B0 b0 d0, .slice B1 b1 d1] 50)
  have hk1 : Blk _ (w.heap.size + 1) _ _ := Blk.new' (w.alloc (.cells #[.int .i64 n, .slice A0 a0 c0, .slice A1 a1 c1] 50)) 50 #[.int .i64 k, .slice B0 b0 d0, .slice B1 b1 d1] (by simp)
  have HB := Lib.hid (bthen hb0 hb1)
  have HK0 := Lib.hid (hk0.below hb1 hk0.lt)
  have HK1 := Lib.hid hk1
  have HF := Lib.hid hf
  clear hb0 hb1 hk0 hk1 hf
  go_enter Tryz.func118, Tryz.ntmps118
  go_upto_region 1 with fail
  generalize World.alloc (w.alloc _) _ = W at *
  have k0 := HK0.out.cell
  have l0 := HK0.out.lt
  go_wp2_with (at_make; refine stopHere ?_)
  refine goHere ?_
  refine mk_full (K := cI) W ty_int64 rfl _ _ rfl W.heap.size n 0 rfl rfl rfl (by omega) (Nat.le_refl _) ?_
  intro w1 ho hg hb hz
  have EZ : List.replicate n (0 : Int) = li (lrow n k p 0 0) := by rw [lrow_zero]; unfold li; rw [List.map_replicate]; rfl
  rw [EZ] at ho
  have HO := Lib.hid ho
  have HB1 := Lib.hid hb
  have hk2 := HK0.out.below hb l0
  have k2 := hk2.cell
  have l2 := hk2.lt
  clear ho hb hg hz EZ k0 l0 hk2
  go_wp2
  go_loopw [17] (fun x wr => ∃ j : Nat, j ≤ n ∧ x = .int .i64 j ∧ Ow cI 2 W.heap.size wr (.slice (some ⟨W.heap.size, 0, none⟩) n n) (li (lrow n k p j 0)) ∧ Below W.heap.size W wr) (fun x _ => n - (intOf x).toNat)
  case atStart => exact ⟨0, Nat.zero_le _, rfl, HO.out, HB1.out⟩
  case round =>
    obtain ⟨x, hx, rfl, ho, hb⟩ := hrel
    clear HO HB1 k2 l2
    have HO := Lib.hid ho
    have HBx := Lib.hid hb
    have hk3 := HK1.out.below hb HK1.out.lt
    have k3 := hk3.cell
    have l3 := hk3.lt
    clear ho hb hk3
    by_cases hxn : x < n
    · go_wp2
      clear k3 l3
      go_loopw [23] (fun y wr => ∃ j : Nat, j ≤ k ∧ y = .int .i64 j ∧ Ow cI 2 W.heap.size wr (.slice (some ⟨W.heap.size, 0, none⟩) n n) (li (lrow n k p x j)) ∧ Below W.heap.size W wr) (fun y _ => k - (intOf y).toNat)
      case atStart => exact ⟨0, Nat.zero_le _, rfl, HO.out, HBx.out⟩
      case round =>
        obtain ⟨y, hy, rfl, ho, hb⟩ := hrel
        clear HO HBx
        have HO := Lib.hid ho
        have HBy := Lib.hid hb
        clear ho hb
        by_cases hyk : y < k
        · go_wp2_with fail
          refine (HF.out _ (bthen HB.out HBy.out) x y hxn hyk).mono ?_
          rintro e w3 ⟨rfl, hb⟩
          have ho := HO.out.below hb
          have hb3 : Below W.heap.size W w3 := HBy.out.trans (hb.mono HBy.out.size)
          clear hb HO HBy
          have HS := Lib.hid (lrow_set n k p x y)
          have HG := Lib.hid (lrow_getD (k := k) (y := y) p hxn)
          cases hp : p x y
          · have HE := Lib.hid (lrow_no (n := n) (k := k) hp)
            have HO := Lib.hid ho
            have HB3 := Lib.hid hb3
            clear hp ho hb3
            go_wp2
            go_roundw
            case rel => exact ⟨y + 1, by omega, by go_num, by rw [HE.out]; exact HO.out, HB3.out⟩
            case measure => simp [intOf]; omega
          · have HM : Hid (msk (p x) (y + 1) = msk (p x) y ||| 2 ^ y) := Lib.hid (by show msk (p x) y ||| (if p x y then 2 ^ y else 0) = _; rw [hp]; rfl)
            have hq := msk_bound (p x) hy hk
            obtain ⟨r, hrr⟩ : ∃ r, lrow n k p x y = r := ⟨_, rfl⟩
            have hrl : r.length = n := by rw [← hrr, lrow_length]
            rw [hrr] at ho HS HG
            clear hrr hp
            obtain ⟨cj, -, -, -⟩ := ho.at1 rfl (j := x) (by rw [li_length, hrl]; omega) rfl
            have hod := ho.below (Below.refl _ _).drew
            obtain ⟨cj4, fj, -, -⟩ := hod.at1 rfl (j := x) (by rw [li_length, hrl]; omega) rfl
            rw [li_get, HG.out] at cj cj4
            have hset := Lib.hid (hod.set1 (j := x) (x := ((msk (p x) y ||| 2 ^ y : Nat) : Int)) (u := .int .i64 (msk (p x) y ||| 2 ^ y : Nat)) rfl rfl (by rw [li_length, hrl]; omega))
            rw [li_set, ← HM.out, HS.out, HM.out] at hset
            have hne : W.heap.size ≤ W.heap.size := Nat.le_refl _
            have hbs := Lib.hid ((hb3.drew).setCell (p := ⟨W.heap.size, x, none⟩) hne (.int .i64 (msk (p x) y ||| 2 ^ y : Nat)))
            clear ho hod hb3 HS HG HM
            generalize msk (p x) y = q at *
            have e2 := i64_or_nat q (2 ^ y) (by omega) (two_pow_lt (by omega))
            have e3 := wrap_two_pow'' (n := y) (by omega)
            rw [← cast_two_pow] at e2
            go_wp2
            go_still_tail 8, (by kernel_rfl)
            change wpList _ _ _ _ _ (World.drew _)
            clear cj
            generalize World.drew _ = w4 at *
            go_wp2
            go_roundw
            case rel => exact ⟨y + 1, by omega, by go_num, hset.out, hbs.out⟩
            case measure => simp [intOf]; omega
        · obtain rfl : y = k := by omega
          have HE := Lib.hid (lrow_next n y p x)
          go_wp2
          go_roundw
          case rel => exact ⟨x + 1, by omega, by go_num, by rw [HE.out]; exact HO.out, HBy.out⟩
          case measure => simp [intOf]; omega
    · obtain rfl : x = n := by omega
      have HE := Lib.hid (lrow_end x k p 0)
      clear k3 l3
      go_wp2
      go_ret
      exact ⟨_, _, rfl, by rw [← HE.out]; exact HO.out.mono HB.out.size, bthen HB.out HBx.out⟩
/- Contracts of chapter 7, of the program: the closures of bounded; append as a step of a region that draws. -/
section
variable {P : Program} {α : Type} {K : Cod α}
theorem wp_any (w : World) {o : Oper} {a : Act} {KK : Act → World → Prop} {Q : Exit → Act → World → Prop} {t e : TypeId} {z : Value} {bytes : Nat}
    (T : Ty P t e z K.size bytes) (s x : Operand)
    (ho : o.op = .call { callee := .builtin .append, args := #[s, x], argTypes := #[t, t] })
    {B : Nat} {v : Value} {xs : List α} (hs : a.eval s = v) (hown : Ow K e B w v xs)
    {A : Option Addr} {m c : Nat} {news : List α} (hx : a.eval x = .slice A m c) (hm : m = news.length) (hr : Rd w A (flat K news))
    (hbytes : (xs.length + news.length) * bytes ≤ 140737488355328) (hbase : B ≤ w.heap.size)
    (h : ∀ v' w', Ow K e B w' v' (xs ++ news) → w.grownBy w' v.ownBlock → Below B w w' → (v'.ownBlock = v.ownBlock ∨ v'.ownBlock = some w.heap.size) → KK (a.put o.dst v') w') :
    o.wp P a w KK Q := by
  subst hm
  obtain ⟨i, hi, hz, hsize, hby⟩ := T.info
  have hpos := T.pos
  have hmax : xs.length + news.length ≤ 140737488355328 := Nat.le_trans (Nat.le_mul_of_pos_right _ hpos) hbytes
  obtain ⟨⟨A0, c0, rfl, hc0, hm0⟩, ho'⟩ := hown
  have main : ∃ v' w', (Builtin.append_ #[t, t] o.type #[.slice A0 xs.length c0, .slice A news.length c]).run P w = .ok v' w' ∧ w'.ownsRow B e K.size v' (xs.length + news.length) (flat K xs ++ flat K news) ∧ w.grownBy w' (Value.ownBlock (.slice A0 xs.length c0)) ∧
      (v'.ownBlock = (Value.ownBlock (.slice A0 xs.length c0)) ∨ v'.ownBlock = some w.heap.size) ∧ ∃ A' c', v' = .slice A' (xs.length + news.length) c' ∧ xs.length + news.length ≤ c' ∧ c' ≤ 9223372036854775807 := by
    have shape : ∀ v' w', World.ownsRow w' B e K.size v' (xs.length + news.length) (flat K xs ++ flat K news) → ∃ A' c', v' = .slice A' (xs.length + news.length) c' ∧ xs.length + news.length ≤ c' ∧ c' ≤ 9223372036854775807 := by
      intro v' w' h
      rcases h.2 with ⟨h1, h2⟩ | ⟨g, cap, cur, hv, _, _, hnc, hcm, _⟩
      · exact ⟨none, 0, by rw [h1, h2], by omega, by omega⟩
      · exact ⟨_, cap, hv, hnc, by simp only [maxLen] at hcm; omega⟩
    by_cases hn : news = []
    · subst hn
      refine ⟨.slice A0 xs.length c0, w, ?_, by simpa [flat] using ho', World.grownBy.refl w _, .inl rfl, A0, c0, by simp, by simpa using hc0, hm0⟩
      rcases ho'.2 with ⟨h1, h2⟩ | ⟨g, cap, cur, hv, _, _, hnc, _⟩
      · rw [h1]
        rcases A with _ | A <;> simp [Builtin.append_, run_underlying T.under, sizeOf, typeInfo, hi, Builtin.lenOf, Builtin.firstCells, loadCells, loadCellsFrom]
      · injection hv with hA _ hcc
        subst hA; subst hcc
        rcases A with _ | A <;> simp [Builtin.append_, run_underlying T.under, sizeOf, typeInfo, hi, Builtin.lenOf, Builtin.firstCells, loadCells, loadCellsFrom, hnc, storeCells]
    · rcases hr with hr | ⟨b, off, rfl, _, hcell⟩
      · have := flat_length (K := K) news
        rw [hr, List.length_nil] at this
        have h0 : 0 < news.length := by cases news with | nil => exact absurd rfl hn | cons _ _ => simp
        have := Nat.mul_pos h0 K.pos
        omega
      · obtain ⟨v', w', hrun, h2, h3, _, h5⟩ := run_append_own_at (P := P) w B t o.type e i z K.size bytes T.under hi hz hsize hby T.cells K.pos _ _ _ ho' ⟨b, off, none⟩ news.length c (flat K news) (flat_length news)
          (fun j u hu => by rw [add_lit]; exact hcell j u hu) (flat_one news) (by simp only [maxLen]; omega) hbytes hbase
        exact ⟨v', w', hrun, h2, h3, h5, shape v' w' h2⟩
  obtain ⟨v', w', hrun, h2, h3, h4, A', c', hv', hn', hm'⟩ := main
  unfold Oper.wp execOp
  simp only [ho, resolve, invoke, builtin, Sem.run_bind, Sem.run_pure, Result.andThen_ok, List.map_toArray, List.map_cons, List.map_nil, hs, hx, hrun]
  refine (h v' w' ⟨⟨A', c', by rw [hv', List.length_append], by simpa using hn', hm'⟩, by rw [flat_append, List.length_append]; exact h2⟩ h3 ?_ h4)
  refine (Below.refl _ _).grown h3 hbase fun k hk => (ho'.lt k hk).1


/-- append of one element, made just now, as a step of a region that draws its order -/
theorem step_one (w : World) {ops : Array Oper} {o : Oper} {a : Act} {KK : Act → World → Prop} {Q : Exit → Act → World → Prop} {E : Prop} {t e : TypeId} {z : Value} {bytes : Nat}
    (T : Ty P t e z K.size bytes) (hgd : o.guard = none) (s x : Operand)
    (ho : o.op = .call { callee := .builtin .append, args := #[s, x], argTypes := #[t, t] })
    {B : Nat} {v : Value} {xs : List α} (hs : a.eval s = v) (hown : Ow K e B w v xs) (y : α) {cs : Array Value} (hcs : K.cells y = cs.toList)
    (hx : a.eval x = .slice (some ⟨w.heap.size, 0, none⟩) 1 1)
    (hbytes : (xs.length + 1) * bytes ≤ 140737488355328) (hbase : B ≤ w.heap.size)
    (h : ∀ v' w', Ow K e B w' v' (xs ++ [y]) → (w.alloc (.cells cs e)).grownBy w' v.ownBlock → Below B w w' → (v'.ownBlock = v.ownBlock ∨ v'.ownBlock = some (w.heap.size + 1)) → KK (a.put o.dst v') w') :
    if Region.wanted o (yielded ops a.tmps) = true then Oper.wp P o a (w.alloc (.cells cs e)) KK Q else E := by
  have hw : Region.wanted o (yielded ops a.tmps) = true := by simp [Region.wanted, hgd]
  rw [if_pos hw]
  have hr : Rd (w.alloc (.cells cs e)) (some ⟨w.heap.size, 0, none⟩) (flat K [y]) := by
    refine .inr ⟨w.heap.size, 0, rfl, by simp, fun k u hu => ?_⟩
    rw [flat_cons, flat_nil, List.append_nil, hcs] at hu
    have := cell_of_row (w.alloc (.cells cs e)) w.heap.size k cs e (0, 0) (heap_alloc_new w _)
    rw [Nat.zero_add, this]
    simpa using hu
  refine wp_any (w.alloc (.cells cs e)) T s x ho hs (hown.alloc _) hx rfl hr hbytes (by simp; omega) fun v' w' h1 h2 h3 h4 => ?_
  exact h v' w' h1 h2 (((Below.refl _ _).alloc hbase _).trans h3) (by simpa using h4)
end
theorem ty_intss : Ty Tryz.prog 55 24 (.slice none 0 0) 1 24 := Ty.mk' Tryz.underlying55 (by kernel_rfl) rfl (by decide)
set_option maxRecDepth 100000 in
theorem impl_bounded_1 (n k : Int) (A0 A1 B0 B1 : Option Addr) (a0 b0 c0 c1 d0 d1 : Nat) (us ts : List Nat) (x y p q : Nat) (w : World) (hp : Blk w p 50 #[.int .i64 n, .slice A0 a0 c0, .slice A1 6 c1]) (hq : Blk w q 50 #[.int .i64 k, .slice B0 b0 d0, .slice B1 6 d1])
    (h : Sl cI w (.slice A1 6 c1) (li us)) (h' : Sl cI w (.slice B1 6 d1) (li ts)) (hl : us.length = 6) (hl' : ts.length = 6) (hb : ∀ i, us.getD i 0 < 256) (hb' : ∀ i, ts.getD i 0 < 256) (hx : x ≤ 60) (hy : y ≤ 60) :
    Calls Tryz.prog 119 #[.int .i64 x, .int .i64 y, .pointer (some ⟨p, 0, none⟩), .pointer (some ⟨q, 0, none⟩)] w fun e w' => e = .returned (.bool (atm us ts x y)) ∧ Below w.heap.size w w' := by
  have EA := Lib.hid (atm_tru us ts x y)
  have HT1 := Lib.hid (fun W (hW : Below w.heap.size w W) => impl_truths n A0 a0 c0 _ us x W (h.below hW) hl hb hx)
  have HT2 := Lib.hid (fun W (hW : Below w.heap.size w W) => impl_truths k B0 b0 d0 _ ts y W (h'.below hW) hl' hb' hy)
  have d0_ : w.cell? ⟨p, 0, none⟩ = some (.int .i64 n) := hp.cell 0
  have d1_ : w.cell? ⟨p, 1, none⟩ = some (.slice A0 a0 c0) := hp.cell 1
  have d2_ : w.cell? ⟨p, 2, none⟩ = some (.slice A1 6 c1) := hp.cell 2
  have e0_ : w.cell? ⟨q, 0, none⟩ = some (.int .i64 k) := hq.cell 0
  have e1_ : w.cell? ⟨q, 1, none⟩ = some (.slice B0 b0 d0) := hq.cell 1
  have e2_ : w.cell? ⟨q, 2, none⟩ = some (.slice B1 6 d1) := hq.cell 2
  have lp := hp.lt
  have lq := hq.lt
  clear h h' hl hl' hb hb' hp hq
  generalize tru us x = r at *
  generalize tru ts y = s at *
  go_enter Tryz.func119, Tryz.ntmps119
  go_wp2
  go_region_held3 (fun w' => w'.cell? ⟨p, 0, none⟩ = some (.int .i64 n) ∧ w'.cell? ⟨p, 1, none⟩ = some (.slice A0 a0 c0) ∧ w'.cell? ⟨p, 2, none⟩ = some (.slice A1 6 c1) ∧ w'.cell? ⟨q, 0, none⟩ = some (.int .i64 k) ∧ w'.cell? ⟨q, 1, none⟩ = some (.slice B0 b0 d0) ∧ w'.cell? ⟨q, 2, none⟩ = some (.slice B1 6 d1)) (first | exact ⟨f0', f1', f2', g0', g1', g2'⟩ | exact ⟨f0, f1, f2, g0, g1, g2⟩ | exact ⟨d0_, d1_, d2_, e0_, e1_, e2_⟩ | (simp [*]; done)) (first | (go_at_call 120; (with_reducible refine (HT1.out _ ?hh).mono ?_); (case hh => exact below_drewN (Below.refl _ _) 1); rintro e w2 ⟨rfl, hb2⟩; have hb3 : Below w.heap.size w w2 := (below_drewN (Below.refl _ _) 1).trans hb2; have f0 := (hb3.cell (p := ⟨p, 0, none⟩) lp).trans d0_; have f1 := (hb3.cell (p := ⟨p, 1, none⟩) lp).trans d1_; have f2 := (hb3.cell (p := ⟨p, 2, none⟩) lp).trans d2_; have g0 := (hb3.cell (p := ⟨q, 0, none⟩) lq).trans e0_; have g1 := (hb3.cell (p := ⟨q, 1, none⟩) lq).trans e1_; have g2 := (hb3.cell (p := ⟨q, 2, none⟩) lq).trans e2_) | (go_at_call 120; (with_reducible refine (HT2.out _ ?hh).mono ?_); (case hh => exact hb3); rintro e w3 ⟨rfl, hb4⟩; have hb5 : Below w.heap.size w w3 := bthen hb3 hb4; have f0' := (hb5.cell (p := ⟨p, 0, none⟩) lp).trans d0_; have f1' := (hb5.cell (p := ⟨p, 1, none⟩) lp).trans d1_; have f2' := (hb5.cell (p := ⟨p, 2, none⟩) lp).trans d2_; have g0' := (hb5.cell (p := ⟨q, 0, none⟩) lq).trans e0_; have g1' := (hb5.cell (p := ⟨q, 1, none⟩) lq).trans e1_; have g2' := (hb5.cell (p := ⟨q, 2, none⟩) lq).trans e2_))
  all_goals
    have HB := Lib.hid hb5
    have hd : Hid (((r : Int) == (s : Int)) = decide (r = s)) := Lib.hid (by rw [Bool.eq_iff_iff, beq_iff_eq, decide_eq_true_eq]; omega)
    clear f0 f1 f2 g0 g1 g2 f0' f1' f2' g0' g1' g2' hb2 hb3 hb4 hb5 d0_ d1_ d2_ e0_ e1_ e2_
    go_wp2
    go_ret
    exact ⟨by rw [EA.out, ← hd.out]; rfl, HB.out⟩
theorem en_bounded_1 : ∀ (args : Array Value) (w : World), (callFunc 119 args).run Tryz.prog w = .ok (.enter 119 args) w := enters Tryz.func119 (by kernel_rfl) (by kernel_rfl)
theorem en_bounded_2 : ∀ (args : Array Value) (w : World), (callFunc 121 args).run Tryz.prog w = .ok (.enter 121 args) w := enters Tryz.func121 (by kernel_rfl) (by kernel_rfl)
set_option maxRecDepth 100000 in
theorem impl_bounded_2 (ns us ks ts lk : List Nat) (A0 A1 B0 B1 C0 C1 : Option Addr) (c0 c1 d0 d1 e0 e1 L C : Nat) (x y p q r l g : Nat) (w : World)
    (hp : Blk w p 50 #[.int .i64 ns.length, .slice A0 ns.length c0, .slice A1 6 c1]) (hq : Blk w q 50 #[.int .i64 ks.length, .slice B0 ks.length d0, .slice B1 6 d1])
    (hr : w.cell? ⟨r, 0, none⟩ = some (.slice (some ⟨g, 0, none⟩) L C)) (hL : 0 < L) (hg : w.cell? ⟨g, 0, none⟩ = some (.slice C0 ns.length e0)) (h0 : Sl cI w (.slice C0 ns.length e0) (li (lnk ns.length ks.length (atm us ts))))
    (hlc : w.cell? ⟨l, 0, none⟩ = some (.slice C1 ns.length e1)) (h1 : Sl cI w (.slice C1 ns.length e1) (li lk)) (hrl : r < w.heap.size) (hll : l < w.heap.size)
    (ha : Sl cI w (.slice A0 ns.length c0) (li ns)) (hb : Sl cI w (.slice B0 ks.length d0) (li ks)) (hm : RelN ns) (hm2 : RelN ks) (hl : lk.length = ns.length) (hlt : ∀ x ∈ lk, x < 2 ^ 8) (hx : x < ns.length) (hy : y < ks.length) :
    Calls Tryz.prog 121 #[.int .i64 x, .int .i64 y, .pointer (some ⟨r, 0, none⟩), .pointer (some ⟨p, 0, none⟩), .pointer (some ⟨q, 0, none⟩), .pointer (some ⟨l, 0, none⟩)] w fun e w' => e = .returned (.bool (hol ns us ks ts lk x y)) ∧ Below w.heap.size w w' := by
  have h8 := hm.1
  have hk8 := hm2.1
  have HF := Lib.hid (fun W (hW : Below w.heap.size w W) => impl_forth ns us ks ts lk A0 A1 B0 B1 c0 c1 d0 d1 _ x y W (ha.below hW) (hb.below hW) (h1.below hW) hm hm2 hl hlt hx hy)
  have HG := Lib.hid (fun W (hW : Below w.heap.size w W) => impl_back ns us ks ts lk A0 A1 B0 B1 c0 c1 d0 d1 _ x y W (ha.below hW) (hb.below hW) (h1.below hW) hm hm2 hl hlt hx hy)
  have HLL := Lib.hid (show (li (lnk ns.length ks.length (atm us ts))).length = ns.length by rw [li_length, lnk_length])
  have hx' : x < (li (lnk ns.length ks.length (atm us ts))).length := by rw [HLL.out]; exact hx
  obtain ⟨b, o, rfl, hbl, hc0⟩ := h0.atI hx'
  rw [li_get, lnk_getD _ hx] at hc0
  have EB : Hid ((msk (atm us ts x) ks.length).testBit y = atm us ts x y) := Lib.hid (by rw [msk_testBit, decide_eq_true hy, Bool.true_and])
  have EH : Hid (hol ns us ks ts lk x y = (atm us ts x y && (frt lk (ns.getD x 0) (ks.getD y 0) && bck lk (ns.getD x 0) (ks.getD y 0)))) := Lib.hid rfl
  have hmb := msk_bound (atm us ts x) (Nat.le_refl ks.length) hk8
  generalize msk (atm us ts x) ks.length = m at *
  generalize hol ns us ks ts lk x y = res at *
  generalize frt lk (ns.getD x 0) (ks.getD y 0) = f2 at *
  generalize bck lk (ns.getD x 0) (ks.getD y 0) = f3 at *
  have HP := Lib.hid hp
  have HQ := Lib.hid hq
  have HL1 := Lib.hid (fun W (hW : Below w.heap.size w W) => (hW.cell (p := ⟨l, 0, none⟩) hll).trans hlc)
  have k1 := hp.cell
  have k2 := hq.cell
  have l1 := hp.lt
  have l2 := hq.lt
  clear hx' h0 h1 ha hb hm hm2 hlt hl hp hq
  have i1 : (0 : Int) < (L : Int) := by omega
  go_enter Tryz.func121, Tryz.ntmps121
  go_wp2_with fail
  refine (impl_has m y _ (by omega) (by omega)).mono ?_
  rintro e w1 ⟨rfl, rfl⟩
  rw [EB.out]
  cases h1 : atm us ts x y
  · rw [h1, Bool.false_and] at EH
    clear h1
    go_wp2
    go_ret
    exact ⟨by rw [EH.out]; rfl, Below.refl _ _⟩
  · rw [h1, Bool.true_and] at EH
    clear h1
    go_wp2_with fail
    refine (HF.out _ (Below.refl _ _)).mono ?_
    rintro e w1 ⟨rfl, hb⟩
    have HB1 := Lib.hid hb
    have k1 := (HP.out.below hb l1).cell
    have k2 := (HQ.out.below hb l2).cell
    have k3 := HL1.out _ hb
    clear hb hr hg hlc hc0
    cases f2
    · rw [Bool.false_and] at EH
      go_wp2
      go_ret
      exact ⟨by rw [EH.out]; rfl, HB1.out⟩
    · rw [Bool.true_and] at EH
      go_wp2_with fail
      refine (HG.out _ HB1.out).mono ?_
      rintro e w2 ⟨rfl, hb⟩
      have HB2 := Lib.hid (bthen HB1.out hb)
      clear hb k1 k2 k3
      go_wp2
      go_ret
      exact ⟨by rw [EH.out]; rfl, HB2.out⟩
end Go.Proofs.YtomojninngdbeaaGreat

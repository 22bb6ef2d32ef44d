/- Joined of several texts: 05U, 05S, 05V, 05T, 05W, 05X. -/
import Derived.Test.Ytnolbgdbboiehaa05R
import Derived.Test.Ytnolbgdbboiehaa05e
import Derived.Test.Ytnolbgdbboiehaa07t
import Derived.Test.Ytnolbgdbboiehaa07u
import Derived.Deep.RegionLaw
import Derived.Deep.RegionHeld3
namespace Go.Proofs.Ytnolbgdbboiehaa
open Go.RowKit
set_option linter.unusedVariables false
set_option linter.unusedSimpArgs false
/- Contracts of chapters 1 and 5, of the reference: squeezing, parts of relations, places in lists, what is reached. -/
theorem spec_l05Squeeze (v : Value) (m on : Nat) (w : World) (h : Sl cI w v (mems on)) (hm : m < 256) (ho : on < 256) :
    Calls Try.prog 62 #[v, .int .i64 m] w fun e w' => e = .returned (.int .i64 (sqz m on : Nat)) ∧ w = w' := by
  have HM8 := Lib.hid (mems8 (n := 8) ho)
  have HMM := Lib.hid (fun x (hx : x ∈ mems on) => mems_mem (n := 8) ho hx)
  have HE : Hid (sqTo m (mems on) (mems on).length = sqz m on) := Lib.hid rfl
  have HST : Hid (∀ k, sqTo m (mems on) (k + 1) = sqTo m (mems on) k ||| if m.testBit ((mems on).getD k 0).toNat then 2 ^ k else 0) := Lib.hid fun k => rfl
  have HZ : Hid (sqTo m (mems on) 0 = 0) := Lib.hid rfl
  have HLT := Lib.hid (sqTo_lt m (mems on))
  obtain ⟨A, c, rfl⟩ := h.opn
  generalize sqz m on = R at *
  generalize mems on = ms at *
  have h8 := HM8.out
  go_enter Try.func62, Try.ntmps62
  go_wp2
  go_loop [5, 6] (fun t i => ∃ j : Nat, j ≤ ms.length ∧ i = .int .i64 j ∧ t = .int .i64 (sqTo m ms j : Nat)) (fun _ i => ms.length - (intOf i).toNat)
  case atStart => exact ⟨0, Nat.zero_le _, rfl, by rw [HZ.out]; rfl⟩
  case round =>
    obtain ⟨j, hj, rfl, rfl⟩ := hrel
    by_cases hlt : j < ms.length
    · obtain ⟨b, o, rfl, hbl, hc0⟩ := h.atI hlt
      obtain ⟨x, hxx, hxn⟩ := HMM.out ms[j] (List.getElem_mem hlt)
      have HS : Hid (sqTo m ms (j + 1) = sqTo m ms j ||| if m.testBit x then 2 ^ j else 0) := Lib.hid (by rw [HST.out, List.getD_eq_getElem?_getD, List.getElem?_eq_getElem hlt, Option.getD_some, hxx, Int.toNat_natCast])
      rw [hxx] at hc0
      have hq : sqTo m ms j < 256 := Nat.lt_of_lt_of_le (HLT.out j) (show 2 ^ j ≤ 2 ^ 8 from Nat.pow_le_pow_right (by omega) (by omega))
      clear hxx
      generalize sqTo m ms j = q at *
      go_wp2_with fail
      refine (spec_l01Bit m x _ (by omega) (by omega)).mono ?_
      rintro e w2 ⟨rfl, rfl⟩
      cases ht : m.testBit x
      · rw [ht] at HS
        clear ht
        go_wp2
        go_round
        case rel => exact ⟨j + 1, by omega, by go_num, by rw [HS.out]; simp⟩
        case measure => simp [intOf]; omega
      · rw [ht] at HS
        clear ht
        have e2 := i64_or_nat q (2 ^ j) (by omega) (two_pow_lt (by omega))
        rw [← cast_two_pow] at e2
        go_wp2_with fail
        refine (spec_l01One j _ (by omega) (by omega)).mono ?_
        rintro e w2 ⟨rfl, rfl⟩
        rw [Int.toNat_natCast]
        go_wp2
        go_round
        case rel => exact ⟨j + 1, by omega, by go_num, by rw [HS.out]; simp⟩
        case measure => simp [intOf]; omega
    · have HE2 : Hid (sqTo m ms j = R) := Lib.hid (by rw [← HE.out]; congr 1; omega)
      go_wp2
      go_ret
      exact ⟨by rw [HE2.out]; rfl, rfl⟩
theorem spec_l01Index (v : Value) (xs : List Int) (x : Int) (k : Nat) (w : World) (h : Sl cI w v xs) (hl : xs.length ≤ 1048576) (hk : k < xs.length) (h1 : xs[k]? = some x) (h2 : ∀ j, j < k → ¬ xs[j]? = some x) :
    Calls Try.prog 28 #[v, .int .i64 x] w fun e w' => e = .returned (.int .i64 (k : Nat)) ∧ w = w' := by
  obtain ⟨A, c, rfl⟩ := h.opn
  have H1 := Lib.hid h1
  have H2 := Lib.hid h2
  clear h1 h2
  go_enter Try.func28, Try.ntmps28
  go_wp2
  go_loop [5] (fun i => ∃ j : Nat, j ≤ k ∧ i = .int .i64 j) (fun i => xs.length - (intOf i).toNat)
  case atStart => exact ⟨0, Nat.zero_le _, rfl⟩
  case round =>
    obtain ⟨j, hj, rfl⟩ := hrel
    have hlt : j < xs.length := by omega
    obtain ⟨b, o, rfl, hbl, hc0⟩ := h.atI hlt
    by_cases he : xs[j] = x
    · have hjk : j = k := by
        rcases Nat.lt_or_ge j k with h' | h'
        · exact absurd (by rw [List.getElem?_eq_getElem hlt, he]) (H2.out j h')
        · omega
      subst hjk
      rw [he] at hc0
      go_wp2
      go_ret
      exact ⟨rfl, rfl⟩
    · have hjk : j < k := by
        rcases Nat.lt_or_ge j k with h' | h'
        · exact h'
        · obtain rfl : j = k := by omega
          have := H1.out
          rw [List.getElem?_eq_getElem hlt] at this
          exact absurd (Option.some.inj this) he
      have hne : (xs[j] == x) = false := by rw [beq_eq_false_iff_ne]; exact he
      generalize xs[j] = y at *
      clear he
      go_wp2
      go_round
      case rel => exact ⟨j + 1, by omega, by go_num⟩
      case measure => simp [intOf]; omega
theorem spec_l05World (n x : Int) (va : Value) (A : Option Addr) (m c : Nat) (hv : va = .slice A m c) (w : World) (hn : 0 ≤ n ∧ n ≤ 8) :
    Calls Try.prog 23 #[.agg #[.int .i64 n, va], .int .i64 x] w fun e w' => e = .returned (.bool (inR x 0 (n - 1))) ∧ Below w.heap.size w w' := by
  subst hv
  have hb0 := below_alloc' w (.cells #[.int .i64 n, .slice A m c] 26)
  have hk0 := Blk.new w 26 #[.int .i64 n, .slice A m c]
  have HB := Lib.hid hb0
  have HK0 := Lib.hid hk0
  have hw1 : IntKind.i64.wrap (n - 1) = n - 1 := IntWalk.i64_in _ ⟨by omega, by omega⟩
  have hw2 : wrap64 (n - 1) = n - 1 := IntWalk.wrap64_in _ ⟨by omega, by omega⟩
  clear hb0 hk0
  go_enter Try.func23, Try.ntmps23
  go_upto_region 1 with fail
  generalize World.alloc w _ = W at *
  have k0 : W.cell? ⟨w.heap.size, 0, none⟩ = some (.int .i64 n) := HK0.out.cell 0
  have l0 := HK0.out.lt
  go_wp2_with fail
  refine (spec_l01In _ _ _ _).mono ?_
  rintro e w1 ⟨rfl, rfl⟩
  go_wp2
  go_ret
  exact ⟨rfl, HB.out⟩
theorem spec_l05Set_in (n on F : Nat) (va : Value) (A : Option Addr) (m c : Nat) (hv : va = .slice A m c) (w : World) (hn : n ≤ 8) (hF : F = 2 ^ n - 1) (ho : on < 2 ^ n) :
    Calls Try.prog 61 #[.agg #[.int .i64 n, va], .int .i64 on] w fun e w' => e = .returned (.bool true) ∧ Below w.heap.size w w' := by
  subst hv
  have hb0 := below_alloc' w (.cells #[.int .i64 n, .slice A m c] 26)
  have hk0 := Blk.new w 26 #[.int .i64 n, .slice A m c]
  have HB := Lib.hid hb0
  have HK0 := Lib.hid hk0
  have EI : Hid (inR (on : Int) 0 (F : Nat) = true) := Lib.hid (inR_true (by omega) (by omega))
  have HF := Lib.hid hF
  clear hb0 hk0 ho hF
  go_enter Try.func61, Try.ntmps61
  go_upto_region 1 with fail
  generalize World.alloc w _ = W at *
  have k0 : W.cell? ⟨w.heap.size, 0, none⟩ = some (.int .i64 n) := HK0.out.cell 0
  have l0 := HK0.out.lt
  go_wp2_with fail
  refine (spec_l01Full' n F HF.out _ (by omega)).mono ?_
  rintro e w1 ⟨rfl, rfl⟩
  go_wp2_with fail
  refine (spec_l01In _ _ _ _).mono ?_
  rintro e w1 ⟨rfl, rfl⟩
  rw [EI.out]
  go_wp2
  go_ret
  exact ⟨rfl, HB.out⟩
theorem spec_l05Reach (v : Value) (ns : List Nat) (x : Nat) (w : World) (h : Sl cI w v (li ns)) (hr : RelN ns) (hx : x < ns.length) :
    Calls Try.prog 24 #[.agg #[.int .i64 ns.length, v], .int .i64 (2 ^ x : Nat)] w fun e w' => e = .returned (.int .i64 (rch ns x : Nat)) ∧ Below w.heap.size w w' := by
  have EL := Lib.hid (li_length ns)
  have h8 := hr.1
  obtain ⟨A, c, rfl⟩ := h.opn
  rw [EL.out] at h ⊢
  have hb0 := below_alloc' w (.cells #[.int .i64 ns.length, .slice A ns.length c] 26)
  have hk0 := Blk.new w 26 #[.int .i64 ns.length, .slice A ns.length c]
  have hb1 := hb0
  have HB := Lib.hid hb0
  have HI := Lib.hid (fun W m (hW : Below w.heap.size w W) (hm : m < 256) => spec_l01Image _ ns m W (h.below hW) hr hm)
  have HIL := Lib.hid (fun m => show img ns m < 2 ^ ns.length from imgTo_lt hr.2 m _)
  have HR := Lib.hid (rch_round ns hr.2 hx)
  have HD := Lib.hid (rch_done ns hr.2 hx)
  have HG := Lib.hid (fun (m : Nat) (hz : ¬ andnot (img ns m) m = 0) (hm : m < 2 ^ ns.length) => or_grow hz hm (HIL.out m))
  have H2 : Hid (2 ^ x < 2 ^ ns.length) := Lib.hid (Nat.pow_lt_pow_right (by decide) hx)
  have H3 : Hid (2 ^ ns.length ≤ 256) := Lib.hid (two_pow_256 h8)
  have H0 : Hid (∀ j, (2 ^ x).testBit j = true → (rch ns x).testBit j = true) := Lib.hid (fun j hj => by rw [rch_bit]; rw [Nat.testBit_two_pow] at hj; rw [hj, Bool.or_true])
  have H4 : Hid ((2 ^ x).testBit x = true) := Lib.hid (by rw [Nat.testBit_two_pow]; simp)
  have HK0 := Lib.hid hk0
  clear h hb0 hb1 hk0 hr
  generalize 2 ^ x = m0 at *
  generalize 2 ^ ns.length = F at *
  generalize rch ns x = R at *
  go_enter Try.func24, Try.ntmps24
  go_upto_region 1 with fail
  generalize World.alloc w _ = W at *
  have k1 : W.cell? ⟨w.heap.size, 1, none⟩ = some (.slice A ns.length c) := HK0.out.cell 1
  have l0 := HK0.out.lt
  go_loop [1] (fun t => ∃ m : Nat, t = .int .i64 m ∧ m < F ∧ (∀ j, m.testBit j = true → R.testBit j = true) ∧ m.testBit x = true) (fun t => F - (intOf t).toNat)
  case atStart => exact ⟨m0, rfl, H2.out, H0.out, H4.out⟩
  case round =>
    obtain ⟨m, rfl, hm, hs, hx1⟩ := hrel
    have hm2 : m < 256 := Nat.lt_of_lt_of_le hm H3.out
    have hi2 : img ns m < 256 := Nat.lt_of_lt_of_le (HIL.out m) H3.out
    have HS := Lib.hid (HR.out m hs)
    have HX1 := Lib.hid hx1
    have e1 := i64_andNot_nat (img ns m) m (by omega) (by omega)
    have e2 := i64_or_nat m (img ns m) (by omega) (by omega)
    have HI1 := Lib.hid (HI.out W m HB.out hm2)
    have HDm := Lib.hid (HD.out m hs hx1)
    have HGm := Lib.hid (fun hz => HG.out m hz hm)
    clear hs hx1
    generalize img ns m = i at *
    go_wp2_with fail
    refine HI1.out.mono ?_
    rintro e w1 ⟨rfl, rfl⟩
    by_cases hz : andnot i m = 0
    · have hd : (((andnot i m : Nat) : Int) != 0) = false := by rw [hz]; rfl
      have HE := Lib.hid (HDm.out hz)
      clear hz
      generalize andnot i m = r at *
      go_wp2
      go_ret
      exact ⟨by rw [HE.out]; rfl, HB.out⟩
    · have hd : (((andnot i m : Nat) : Int) != 0) = true := by rw [bne_iff_ne]; omega
      have hg := HGm.out hz
      clear hz
      generalize andnot i m = r at *
      go_wp2_with fail
      refine HI1.out.mono ?_
      rintro e w1 ⟨rfl, rfl⟩
      go_wp2
      go_round
      case rel => exact ⟨m ||| i, by go_num, hg.2, HS.out, by rw [Nat.testBit_or, HX1.out, Bool.true_or]⟩
      case measure => simp [intOf]; omega
/- Contracts of chapters 5 and 7, of the program: partOfModel. -/
theorem ptv_take (us : List Nat) (on : Nat) {j : Nat} (h : j < us.length) : (ptv us on).take (j + 1) = (ptv us on).take j ++ [sqz (us.getD j 0) on] := by
  rw [List.take_succ_eq_append_getElem (by rw [ptv_length]; exact h)]
  congr 2
  simp [ptv, h]
set_option maxHeartbeats 2000000 in
set_option maxRecDepth 100000 in
theorem impl_partOfModel (ns us : List Nat) (on : Nat) (A0 A1 : Option Addr) (c0 c1 : Nat) (w : World) (hm : Mdl w (.slice A0 ns.length c0) (.slice A1 6 c1) ns us) (h1 : MdN ns us) (hon : on < 2 ^ ns.length) :
    Calls Try.prog 19 #[.agg #[.int .i64 ns.length, .slice A0 ns.length c0, .slice A1 6 c1], .int .i64 on] w
      fun e w' => ∃ B1 d1 B2 d2 H, e = .returned (.agg #[.int .i64 (mems on).length, .slice B1 (mems on).length d1, .slice B2 6 d2]) ∧ w.heap.size ≤ H ∧ H ≤ w'.heap.size ∧
        Ob cI 2 w.heap.size H w' (.slice B1 (mems on).length d1) (li (ptr ns on)) ∧ Ob cI 2 H w'.heap.size w' (.slice B2 6 d2) (li (ptv us on)) ∧ Below w.heap.size w w' := by
  have h8 := h1.r.1
  have ho256 := Nat.lt_of_lt_of_le hon (two_pow_256 h8)
  have hb0 := below_alloc' w (.cells #[.int .i64 ns.length, .slice A0 ns.length c0, .slice A1 6 c1] 28)
  have hk0 := Blk.new w 28 #[.int .i64 ns.length, .slice A0 ns.length c0, .slice A1 6 c1]
  have hb1 := below_alloc' (w.alloc (.cells #[.int .i64 ns.length, .slice A0 ns.length c0, .slice A1 6 c1] 28)) (.cells #[.int .i64 0, .slice none 0 0, .slice none 0 0] 28)
  have hk1 : Blk _ (w.heap.size + 1) _ _ := Blk.new' (w.alloc (.cells #[.int .i64 ns.length, .slice A0 ns.length c0, .slice A1 6 c1] 28)) 28 #[.int .i64 0, .slice none 0 0, .slice none 0 0] (by simp)
  have HB := Lib.hid (bthen hb0 hb1)
  have HK0 := Lib.hid (hk0.below hb1 hk0.lt)
  have HK1 := Lib.hid hk1
  have HQ := Lib.hid (fun W (hW : Below w.heap.size w W) => impl_partOn _ ns on W (hm.a.below hW) h1.r hon)
  have HF := Lib.hid (fun A c W (hW : Sl cI W (.slice A (mems on).length c) (li (ptr ns on))) => impl_frameOf (.slice A (mems on).length c) _ W hW)
  have LQ := Lib.hid (show (li (ptr ns on)).length = (mems on).length by rw [li_length, ptr_length])
  have HM := Lib.hid (fun (j : Nat) W => impl_squeeze (us.getD j 0) on W (Nat.lt_of_lt_of_le (getD_lt h1.b j) (two_pow_256 h8)) ho256)
  have HU := Lib.hid hm.u
  have LU6 := Lib.hid (show (li us).length = 6 by rw [li_length, h1.l])
  have HT := Lib.hid (fun (j : Nat) (hj : j < 6) => ptv_take us on (j := j) (by rw [h1.l]; exact hj))
  have HT0 := Lib.hid (show (ptv us on).take 6 = ptv us on from List.take_of_length_le (by rw [ptv_length, h1.l]; exact Nat.le_refl _))
  have HTL := Lib.hid (fun (j : Nat) (hj : j ≤ 6) => show (li ((ptv us on).take j)).length = j by rw [li_length, List.length_take, ptv_length, h1.l]; omega)
  rw [LQ.out] at HF
  have hn8 : (mems on).length ≤ 8 := mems8 (n := 8) ho256
  clear hb0 hb1 hk0 hk1 hm h1 hon
  generalize (mems on).length = n at *
  generalize ptr ns on = qr at *
  generalize hpv : ptv us on = pv at *
  clear hpv
  go_enter Try.func19, Try.ntmps19
  go_upto_region 1 with fail
  generalize World.alloc (w.alloc _) _ = W at *
  have k0 := HK0.out.cell
  have l0 := HK0.out.lt
  go_wp2_with fail
  refine (HQ.out _ HB.out).mono ?_
  rintro e w3 ⟨u, rfl, ho, hb⟩
  obtain ⟨Aq, cq, rfl⟩ := ho.opn
  rw [LQ.out] at ho ⊢
  have HO := Lib.hid (show Ow cI 2 (w.heap.size + 2) w3 (.slice Aq n cq) (li qr) from ho.mono HK1.out.lt)
  have HB3 := Lib.hid (bthen HB.out hb)
  have HKe := Lib.hid (HK0.out.below hb HK0.out.lt)
  have HKf := Lib.hid (HK1.out.below hb HK1.out.lt)
  clear ho hb HK0 HK1 k0 l0
  go_wp2_with fail
  refine (HF.out _ _ _ HO.out.sl).mono ?_
  rintro e w4 ⟨rfl, hb⟩
  have HO4 := Lib.hid (HO.out.below hb)
  have HB4 := Lib.hid (bthen HB3.out hb)
  have HKg := Lib.hid (HKe.out.below hb HKe.out.lt)
  have HKh := Lib.hid (HKf.out.below hb HKf.out.lt)
  clear hb HKe HKf HO HB3
  have k4 := HKg.out.cell
  have l4 := HKg.out.lt
  go_wp2
  have HP : Hid (Blk (w4.alloc (.cells #[.int .i64 n, .slice Aq n cq, .slice none 0 0] 28)) w4.heap.size 28 #[.int .i64 n, .slice Aq n cq, .slice none 0 0]) := Lib.hid (Blk.new _ _ _)
  have HV := Lib.hid (below_alloc' w4 (.cells #[.int .i64 n, .slice Aq n cq, .slice none 0 0] 28))
  have HVs : Hid ((w4.alloc (.cells #[.int .i64 n, .slice Aq n cq, .slice none 0 0] 28)).heap.size = w4.heap.size + 1) := Lib.hid (by simp)
  generalize World.alloc w4 _ = V at *
  clear k4 l4
  go_loopw [18] (fun i wr => ∃ j : Nat, j ≤ 6 ∧ i = .int .i64 j ∧ Below w4.heap.size w4 wr ∧ w4.heap.size + 1 ≤ wr.heap.size ∧ ∃ v', Blk wr w4.heap.size 28 #[.int .i64 n, .slice Aq n cq, v'] ∧ Ow cI 2 (w4.heap.size + 1) wr v' (li (pv.take j))) (fun i _ => 6 - (intOf i).toNat)
  case atStart => exact ⟨0, Nat.zero_le _, rfl, HV.out, by rw [HVs.out]; exact Nat.le_refl _, _, HP.out, Ow.nil _ _⟩
  case round =>
    obtain ⟨j, hj, rfl, hb, hz, v', hp, ho⟩ := hrel
    obtain ⟨Av, cv, rfl⟩ := ho.opn
    have hl := HTL.out j hj
    have HO := Lib.hid ho
    have HPx := Lib.hid hp
    have HBx := Lib.hid hb
    have hsz := hb.size
    rw [hl] at HO HPx
    have HL := Lib.hid hl
    clear ho hp hl
    by_cases hlt : j < 6
    · obtain ⟨b, o, rfl, hbl, hc0⟩ := (show Sl cI w (.slice A1 (li us).length c1) (li us) by rw [LU6.out]; exact HU.out).below (bthen HB4.out hb) |>.atI (k := j) (by rw [LU6.out]; exact hlt)
      rw [li_get] at hc0
      have hm := HM.out j
      have HS := Lib.hid (HT.out j hlt)
      obtain ⟨q, hq⟩ : ∃ q, sqz (us.getD j 0) on = q := ⟨_, rfl⟩
      obtain ⟨m, hmm⟩ : ∃ m, us.getD j 0 = m := ⟨_, rfl⟩
      rw [hq] at hm HS
      rw [hmm] at hc0 hm
      have HMj := Lib.hid hm
      obtain ⟨xs, hxs⟩ : ∃ xs, li (pv.take j) = xs := ⟨_, rfl⟩
      have HXE : Hid (li (pv.take (j + 1)) = xs ++ [(q : Int)]) := Lib.hid (by rw [HS.out, li_append, hxs]; rfl)
      rw [hxs] at HO HL
      have hxl : xs.length ≤ 1000 := by rw [HL.out]; omega
      have hl9 : (xs ++ [(q : Int)]).length = j + 1 := by simp [HL.out]
      have HNR := Lib.hid (HO.out.apart (g := w4.heap.size) (.inl (by omega)))
      have kc := HPx.out.cell
      have kf := HPx.out.frozen
      have kl := HPx.out.lt
      clear hb hm hq hmm hxs HS
      go_wp2
      go_region_law (first | (refine step_one (K := cI) _ ty_int64 rfl _ _ rfl (B := w4.heap.size + 1) (xs := xs) (by simp [Act.eval, Act.put]; done) hO3 (q : Int) rfl (by simp [Act.eval, Act.put]; done) (by omega) hz3 ?_; intro v1 w5 ho1 hg1 hb1 hat1; obtain ⟨g9, c9, hv9, hB9, -⟩ := ho1.form (by simp); rw [hl9] at hv9; subst hv9; have hk9 := (hk3.alloc _).grown hg1 HNR.out; have kc9 := hk9.cell; have kf9 := hk9.frozen; have kl9 := hk9.lt) | (go_simp; go_at_call 55; refine (HMj.out _).mono ?_; rintro e w3 ⟨rfl, hb⟩; have hO3 := (HO.out.below (below_drewN (Below.refl _ _) 1)).below hb; have hb3 := (below_drewN HBx.out 1).trans (hb.mono (below_drewN HBx.out 1).size); have hk3 := HPx.out.below ((below_drewN (Below.refl _ _) 1).trans hb) kl; have rc3 := hk3.cell; have rl3 := hk3.lt; have hz3 := Nat.le_trans hz hb.size))
      all_goals
        have Y1 := Lib.hid (hk9.set_ 2 (.slice (some ⟨g9, 0, none⟩) (j + 1) c9))
        have Y3 := Lib.hid (ho1.setBelow (p := ⟨w4.heap.size, 2, none⟩) (Nat.lt_succ_self _) (.slice (some ⟨g9, 0, none⟩) (j + 1) c9))
        have Y4 := Lib.hid ((hb3.trans (hb1.mono (by omega))).setCell (p := ⟨w4.heap.size, 2, none⟩) (Nat.le_refl _) (.slice (some ⟨g9, 0, none⟩) (j + 1) c9))
        have Y5 := Lib.hid (Nat.le_trans hz3 hb1.size)
        clear ho1 hg1 hb1 hat1 hk9 kc9 kf9 hO3 hb3 hk3 rc3 kc kf
        go_wp2
        go_roundw
        case rel => exact ⟨j + 1, by omega, by go_num, Y4.out, by simp only [World.setCell, Array.size_modify]; exact Y5.out, _, Y1.out, by rw [HXE.out]; exact Y3.out⟩
        case measure => simp [intOf]; omega
    · obtain rfl : j = 6 := by omega
      rw [HT0.out] at HO
      have kc := HPx.out.cell
      have kl := HPx.out.lt
      have hr1 := HKh.out.below hb HKh.out.lt
      have rc := hr1.cell
      have rf := hr1.frozen
      have rl := hr1.lt
      have hle := HB4.out.size
      have Z1 : Hid (Ow cI 2 (w.heap.size + 2) wr (.slice Aq n cq) (li qr)) := Lib.hid (HO4.out.below hb)
      have Z1b : Hid (∀ g, (Value.slice Aq n cq).ownBlock = some g → g < w4.heap.size + 1) := Lib.hid (fun g hg => by have := (HO4.out.block g hg).2; omega)
      have Z2 := Lib.hid HO.out
      have Z4 := Lib.hid (bthen HB4.out hb)
      have Z5 := Lib.hid hz
      have Z6 := Lib.hid hle
      have Z7 := Lib.hid (show w.heap.size + 1 < w4.heap.size + 1 by have := HKh.out.lt; omega)
      have Z8 : Hid (∀ (W : World) (u1 u2 u3 : Value), (((W.setCell ⟨w.heap.size + 1, 0, none⟩ u1).setCell ⟨w.heap.size + 1, 1, none⟩ u2).setCell ⟨w.heap.size + 1, 2, none⟩ u3).heap.size = W.heap.size) := Lib.hid (fun W u1 u2 u3 => by simp [World.setCell])
      clear hb hr1 HO HU LU6 HM HT HTL
      go_wp2
      refine bodyPost_ret (v := .agg #[.int .i64 n, .slice Aq n cq, .slice Av 6 cv]) (by simp [results, Try.results19, go_sem, rc, rf, rl]) rfl ⟨_, _, _, _, w4.heap.size + 1, rfl, by omega, ?_, ⟨?_, ?_⟩, ⟨?_, ?_⟩, ?_⟩
      · rw [Z8.out]; exact Z5.out
      · exact (((Z1.out.setBelow (Nat.lt_succ_self _) _).setBelow (Nat.lt_succ_self _) _).setBelow (Nat.lt_succ_self _) _).mono (by omega)
      · exact Z1b.out
      · exact ((Z2.out.setBelow Z7.out _).setBelow Z7.out _).setBelow Z7.out _
      · rw [Z8.out]; intro g hg; exact (Z2.out.block g hg).2
      · exact ((Z4.out.setCell (Nat.le_succ _) _).setCell (Nat.le_succ _) _).setCell (Nat.le_succ _) _
/- Contracts of chapter 5, of the reference: the part of a frame. -/
set_option maxHeartbeats 2000000 in
set_option maxRecDepth 100000 in
theorem spec_l05Part (v : Value) (ns : List Nat) (on : Nat) (w : World) (h : Sl cI w v (li ns)) (hr : RelN ns) (ho : on < 2 ^ ns.length) :
    Calls Try.prog 63 #[.agg #[.int .i64 ns.length, v], .int .i64 on] w fun e w' => ∃ u, e = .returned (.agg #[.int .i64 (ptr ns on).length, u]) ∧ Ow cI 2 w.heap.size w' u (li (ptr ns on)) ∧ Below w.heap.size w w' := by
  have h8 := hr.1
  have EL := Lib.hid (li_length ns)
  obtain ⟨A, c, rfl⟩ := h.opn
  rw [EL.out] at h ⊢
  have hb0 := below_alloc' w (.cells #[.int .i64 ns.length, .slice A ns.length c] 26)
  have hk0 := Blk.new w 26 #[.int .i64 ns.length, .slice A ns.length c]
  have hb1 := below_alloc' (w.alloc (.cells #[.int .i64 ns.length, .slice A ns.length c] 26)) (.cells #[.int .i64 0, .slice none 0 0] 26)
  have hk1 : Blk _ (w.heap.size + 1) _ _ := Blk.new' (w.alloc (.cells #[.int .i64 ns.length, .slice A ns.length c] 26)) 26 #[.int .i64 0, .slice none 0 0] (by simp)
  have HB := Lib.hid (bthen hb0 hb1)
  have HK0 := Lib.hid (hk0.below hb1 hk0.lt)
  have HK1 := Lib.hid hk1
  have ho256 := Nat.lt_of_lt_of_le ho (two_pow_256 h8)
  have HML := Lib.hid (mems8 ho)
  have HMM := Lib.hid (fun x (hx : x ∈ mems on) => mems_mem ho hx)
  have HX := Lib.hid (fun i => Nat.lt_of_lt_of_le (getD_lt hr.2 i) (two_pow_256 h8))
  have HT := Lib.hid (fun j hj => ptr_take ns on j hj)
  have HTA : Hid ((ptr ns on).take (mems on).length = ptr ns on) := Lib.hid (List.take_of_length_le (by rw [ptr_length]; exact Nat.le_refl _))
  have HTL : Hid (∀ j, j ≤ (mems on).length → (li ((ptr ns on).take j)).length = j) := Lib.hid (fun j hj => by rw [li_length, List.length_take, ptr_length]; omega)
  have HPL : Hid ((ptr ns on).length = (mems on).length) := Lib.hid (ptr_length _ _)
  have HSq := Lib.hid (fun v m W (hW : Sl cI W v (mems on)) (hm : m < 256) => spec_l05Squeeze v m on W hW hm ho256)
  have HLi := Lib.hid (fun W => spec_l01List on W (by omega))
  have H0 := Lib.hid h
  clear h hr ho hb0 hb1 hk0 hk1
  generalize ptr ns on = pt at *
  generalize hms : mems on = ms at *
  clear hms
  go_enter Try.func63, Try.ntmps63
  go_upto_region 1 with fail
  generalize World.alloc (w.alloc _) _ = W at *
  go_wp2_with fail
  refine (HLi.out _).mono ?_
  rintro e w1 ⟨vm, rfl, hv, hb⟩
  obtain ⟨A2, c2, rfl⟩ := hv.opn
  have HMs := Lib.hid hv.sl
  have HB1 := Lib.hid (bthen HB.out hb)
  have HKa := Lib.hid (HK0.out.below hb HK0.out.lt)
  have HKb := Lib.hid (HK1.out.below hb HK1.out.lt)
  clear hv hb HB HK0 HK1 HLi
  have hm8 := HML.out
  go_wp2
  go_loopw [6, 7] (fun ov i wr => ∃ j : Nat, j ≤ ms.length ∧ i = .int .i64 j ∧ Ow cI 2 w1.heap.size wr ov (li (pt.take j)) ∧ Below w1.heap.size w1 wr) (fun _ i _ => ms.length - (intOf i).toNat)
  case atStart => exact ⟨0, Nat.zero_le _, rfl, Ow.lit [] rfl rfl (Nat.le_refl _), (Below.refl _ _).alloc (Nat.le_refl _) _⟩
  case round =>
    obtain ⟨j, hj, rfl, hov, hb2⟩ := hrel
    have hb : Below w.heap.size w wr := HB1.out.trans (hb2.mono HB1.out.size)
    have HBr := Lib.hid hb
    have HBr2 := Lib.hid hb2
    have hszr := hb2.size
    obtain ⟨Av, cv, rfl⟩ := hov.opn
    rw [HTL.out j hj] at hov ⊢
    have HOV := Lib.hid hov
    have hkr := HKa.out.below hb2 HKa.out.lt
    clear hov
    by_cases hlt : j < ms.length
    · obtain ⟨x, hxx, hxn⟩ := HMM.out ms[j] (List.getElem_mem hlt)
      obtain ⟨b, o, rfl, hbl, hc0⟩ := (HMs.out.below hb2).atI hlt
      obtain ⟨b2, o2, rfl, hbl2, hd0⟩ := (show Sl cI wr (.slice A (li ns).length c) (li ns) by rw [EL.out]; exact H0.out.below hb).atI (k := x) (by rw [EL.out]; exact hxn)
      have HS := Lib.hid (HT.out j hlt)
      rw [hxx] at hc0
      rw [hxx, Int.toNat_natCast] at HS
      rw [li_get] at hd0
      have hx256 := HX.out x
      have HL := Lib.hid (HTL.out j (by omega))
      have hxn2 : (x : Int) < (ns.length : Int) := by omega
      have hjn2 : (j : Int) < (ms.length : Int) := by omega
      obtain ⟨m, hmm⟩ : ∃ m, ns.getD x 0 = m := ⟨_, rfl⟩
      rw [hmm] at hd0 hx256 HS
      have HMr := Lib.hid (HMs.out.below hb2)
      have k1 : wr.cell? ⟨w.heap.size, 1, none⟩ = some (.slice (some ⟨b2, o2, none⟩) ns.length c) := hkr.cell 1
      have l1 := hkr.lt
      obtain ⟨xs, hxs⟩ : ∃ xs, li (pt.take j) = xs := ⟨_, rfl⟩
      rw [hxs] at HOV HL
      have HXE : Hid (li (pt.take (j + 1)) = xs ++ [((sqz m on : Nat) : Int)]) := Lib.hid (by rw [HS.out]; unfold li; rw [List.map_append, ← hxs]; rfl)
      clear hxx hmm hb hb2 hkr hxs
      go_upto_region 5 with fail
      refine wp_region_sched (Below wr.heap.size wr) 12 [0, 1, 2, 3, 4, 5, 6, 7, 8, 9] [0, 1, 2, 3, 4, 5, 6, 7, 8, 9, 10, 11] (by kernel_rfl) (by kernel_rfl) (Below.refl _ _).drew ?_
      repeat
        apply wpSched_q rfl rfl
        case h =>
          intro w' hI K hK
          have k1' := (hI.cell (p := ⟨w.heap.size, 1, none⟩) l1).trans k1
          have hc0' := (hI.cell (p := ⟨b, o + j, none⟩) hbl).trans hc0
          have hd0' := (hI.cell (p := ⟨b2, o2 + x, none⟩) hbl2).trans hd0
          simp only [quietV, stillV]
          go_simp
          exact hK
        go_simp
      refine wpSched_r rfl rfl ?_ (Below.refl _ _).drew
      intro K hK _
      go_simp
      refine (HSq.out _ m _ (HMr.out.below (Below.refl _ _).drew) hx256).mono ?_
      rintro e w6 ⟨rfl, rfl⟩
      refine hK _ _ (Below.refl _ _).drew ?_
      clear hK K
      refine wpSched_r rfl rfl ?_ (Below.refl _ _).drew
      intro K hK _
      go_simp
      refine hK _ _ ((Below.refl _ _).drew.alloc (Below.refl wr.heap.size wr).drew.size _) ?_
      clear hK K
      refine wpSched_nil ?_
      try simp only [List.drop_succ_cons, List.drop_zero]
      have HOD := Lib.hid (HOV.out.below (Below.refl _ _).drew)
      refine ap_one (K := cI) _ ty_int64 rfl _ _ rfl (B := w1.heap.size) (xs := xs) rfl HOD.out ((sqz m on : Nat) : Int) rfl rfl (by have := HL.out; omega) (Nat.le_trans hszr (Below.refl wr.heap.size wr).drew.size) ?_
      intro v1 w3 ho1 hg1 hb1 hat1
      have HO1 : Hid (Ow cI 2 w1.heap.size w3 v1 (li (pt.take (j + 1)))) := Lib.hid (by rw [HXE.out]; exact ho1)
      have HB5 : Hid (Below w1.heap.size w1 w3) := Lib.hid ((HBr2.out.trans ((Below.refl wr.heap.size wr).drew.mono hszr)).trans hb1)
      clear ho1 hg1 hb1 hat1 hc0 hd0 k1
      go_wp2
      go_roundw
      case rel => exact ⟨j + 1, by omega, by go_num, HO1.out, HB5.out⟩
      case measure => simp [intOf]; omega
    · obtain rfl : j = ms.length := by omega
      rw [HTA.out] at HOV
      have HMk := Lib.hid (fun W (hW : Sl cI W (.slice Av ms.length cv) (li pt)) => spec_l05Make _ _ W hW (by rw [li_length, HPL.out]; omega))
      rw [li_length] at HMk
      have HKr := Lib.hid (HKb.out.below hb2 HKb.out.lt)
      clear hb hb2 hkr
      go_wp2_with fail
      refine (HMk.out _ HOV.out.sl).mono ?_
      rintro e w5 ⟨u, rfl, ho, hb⟩
      obtain ⟨A5, c5, rfl⟩ := ho.opn
      have hr1 := HKr.out.below hb HKr.out.lt
      have rc := hr1.cell
      have rf := hr1.frozen
      have rl := hr1.lt
      have hlr := HKr.out.lt
      have Z1 := Lib.hid (show Ow cI 2 (w.heap.size + 2) w5 _ _ from ho.mono hlr)
      have Z2 := Lib.hid (bthen HBr.out hb)
      clear ho hb hr1
      go_wp2
      refine bodyPost_ret (v := .agg #[.int .i64 pt.length, .slice A5 (li pt).length c5]) (by simp [results, Try.results63, go_sem, rc, rf, rl]) rfl ⟨_, rfl, ?_, ?_⟩
      · exact ((Z1.out.setBelow (Nat.lt_succ_self _) _).setBelow (Nat.lt_succ_self _) _).mono (by omega)
      · exact (Z2.out.setCell (Nat.le_succ _) _).setCell (Nat.le_succ _) _
/- Contracts of ReducedModel, of the program. -/
/-- what stands while a drawn region makes a result: the result's box, two lists, some cells that are read -/
structure TT (w : World) (m : Nat) (ps : List (Addr × Value)) (c : Array Value) (u1 u2 : Value) (rs vs : List Int) (H : Nat) (X : World) : Prop where
  blk : Blk X (w.heap.size + 1) 28 c
  o1 : Ow cI 2 (w.heap.size + 2) X u1 rs
  o2 : Ow cI 2 H X u2 vs
  sz : m ≤ X.heap.size
  be : Below w.heap.size w X
  cells : ∀ p ∈ ps, X.cell? p.1 = some p.2
  lt : ∀ p ∈ ps, p.1.block < m
  ne : ∀ p ∈ ps, w.heap.size + 1 ≠ p.1.block
  hH : w.heap.size + 1 < H
theorem TT.below {w : World} {m : Nat} {ps : List (Addr × Value)} {c : Array Value} {u1 u2 : Value} {rs vs : List Int} {H : Nat} {X Y : World} (h : TT w m ps c u1 u2 rs vs H X) (hb : Below X.heap.size X Y) : TT w m ps c u1 u2 rs vs H Y :=
  ⟨h.blk.below hb h.blk.lt, h.o1.below hb, h.o2.below hb, Nat.le_trans h.sz hb.size, bthen h.be hb, fun p hp => (hb.cell (p := p.1) (Nat.lt_of_lt_of_le (h.lt p hp) h.sz)).trans (h.cells p hp), h.lt, h.ne, h.hH⟩
theorem TT.drew {w : World} {m : Nat} {ps : List (Addr × Value)} {c : Array Value} {u1 u2 : Value} {rs vs : List Int} {H : Nat} {X : World} (h : TT w m ps c u1 u2 rs vs H X) : TT w m ps c u1 u2 rs vs H X.drew := h.below (Below.refl _ _).drew
theorem TT.set {w : World} {m : Nat} {ps : List (Addr × Value)} {c : Array Value} {u1 u2 : Value} {rs vs : List Int} {H : Nat} {X : World} (h : TT w m ps c u1 u2 rs vs H X) (i : Nat) (u : Value) : TT w m ps (c.setIfInBounds i u) u1 u2 rs vs H (X.setCell ⟨w.heap.size + 1, i, none⟩ u) :=
  ⟨h.blk.set_ i u, h.o1.setBelow (Nat.lt_succ_self _) u, h.o2.setBelow h.hH u, by simp only [World.setCell, Array.size_modify]; exact h.sz, h.be.setCell (Nat.le_succ _) u, fun p hp => by rw [World.cell?_setCell_far _ _ _ _ (h.ne p hp)]; exact h.cells p hp, h.lt, h.ne, h.hH⟩
theorem TT.store {w : World} {m : Nat} {ps : List (Addr × Value)} {x y z : Value} {u1 u2 : Value} {rs vs : List Int} {H : Nat} {X : World} (h : TT w m ps #[x, y, z] u1 u2 rs vs H X) (a b d : Value) : TT w m ps #[a, b, d] u1 u2 rs vs H (((X.setCell ⟨w.heap.size + 1, 0, none⟩ a).setCell ⟨w.heap.size + 1, 1, none⟩ b).setCell ⟨w.heap.size + 1, 2, none⟩ d) :=
  ((h.set 0 a).set 1 b).set 2 d
theorem TT.four {w : World} {m : Nat} {p0 p1 p2 p3 : Addr} {x0 x1 x2 x3 : Value} {c : Array Value} {u1 u2 : Value} {rs vs : List Int} {H : Nat} {X : World} (h : TT w m [(p0, x0), (p1, x1), (p2, x2), (p3, x3)] c u1 u2 rs vs H X) : X.cell? p0 = some x0 ∧ X.cell? p1 = some x1 ∧ X.cell? p2 = some x2 ∧ X.cell? p3 = some x3 :=
  ⟨h.cells (p0, x0) (by simp), h.cells (p1, x1) (by simp), h.cells (p2, x2) (by simp), h.cells (p3, x3) (by simp)⟩
theorem TT.sz2 {w : World} {m n : Nat} {ps : List (Addr × Value)} {c : Array Value} {u1 u2 : Value} {rs vs : List Int} {H : Nat} {X : World} (h : TT w m ps c u1 u2 rs vs H X) (hn : w.heap.size + 1 < n) (hm : n + 1 = m) : w.heap.size + 2 ≤ X.heap.size := by
  have := h.sz; omega
set_option maxHeartbeats 2000000 in
set_option maxRecDepth 100000 in
theorem impl_ReducedModel_ok (ns us : List Nat) (x k : Nat) (A0 A1 : Option Addr) (c0 c1 : Nat) (w : World) (hm : Mdl w (.slice A0 ns.length c0) (.slice A1 6 c1) ns us) (h1 : MdN ns us) (hok : mdOk ns.length (li ns) (li us) = true) (hx : x < ns.length)
    (hk : k < (mems (rch ns x)).length) (hk1 : (mems (rch ns x))[k]? = some (x : Int)) (hk2 : ∀ j, j < k → ¬ (mems (rch ns x))[j]? = some (x : Int)) :
    Calls Try.prog 6 #[.agg #[.int .i64 ns.length, .slice A0 ns.length c0, .slice A1 6 c1], .int .i64 x] w
      fun e w' => ∃ u1 u2, e = .returned (.tuple #[.agg #[.int .i64 (qn (ptr ns (rch ns x)) (ptv us (rch ns x)) : Nat), u1, u2], .int .i64 ((qcl (ptr ns (rch ns x)) (ptv us (rch ns x))).getD k 0 : Nat), .int .i64 0]) ∧
        MdR w w' u1 u2 (li (qrl (qcl (ptr ns (rch ns x)) (ptv us (rch ns x))) (ptr ns (rch ns x)) (qn (ptr ns (rch ns x)) (ptv us (rch ns x))) (ptr ns (rch ns x)).length)) (li (qvl (qcl (ptr ns (rch ns x)) (ptv us (rch ns x))) (ptv us (rch ns x)))) ∧ Below w.heap.size w w' := by
  have hb0 := below_alloc' w (.cells #[.int .i64 ns.length, .slice A0 ns.length c0, .slice A1 6 c1] 28)
  have hk0 := Blk.new w 28 #[.int .i64 ns.length, .slice A0 ns.length c0, .slice A1 6 c1]
  have hb1 := below_alloc' (w.alloc (.cells #[.int .i64 ns.length, .slice A0 ns.length c0, .slice A1 6 c1] 28)) (.cells #[.int .i64 0, .slice none 0 0, .slice none 0 0] 28)
  have hk3 : Blk _ (w.heap.size + 1) _ _ := Blk.new' (w.alloc (.cells #[.int .i64 ns.length, .slice A0 ns.length c0, .slice A1 6 c1] 28)) 28 #[.int .i64 0, .slice none 0 0, .slice none 0 0] (by simp)
  have HB := Lib.hid (bthen hb0 hb1)
  have HK0 := Lib.hid (hk0.below hb1 hk0.lt)
  have HK1 := Lib.hid hk3
  have E1 := Lib.hid (li_length ns)
  have E2 := Lib.hid (show (li us).length = 6 by rw [li_length, h1.l])
  have h8 := h1.r.1
  have hR : rch ns x < 2 ^ ns.length := rch_lt ns h1.r.2 hx
  have hR256 := Nat.lt_of_lt_of_le hR (two_pow_256 h8)
  have HI := Lib.hid (fun W (hW : Below w.heap.size w W) => hok ▸ impl_isModel ns.length _ _ (li ns) (li us) W (hm.a.below hW) (hm.u.below hW) (by rw [E1.out]; omega) (by rw [E2.out]; omega))
  have EW : Hid (inR (x : Int) 0 ((ns.length : Int) - 1) = true) := Lib.hid (inR_true (by omega) (by omega))
  have HW := Lib.hid (fun W => impl_hasWorld (ns.length : Int) (x : Int) (.slice A0 ns.length c0) A0 ns.length c0 rfl W ⟨by omega, by omega⟩)
  have HRe := Lib.hid (fun W (hW : Below w.heap.size w W) => impl_reachable _ ns W (hm.a.below hW) h1.r)
  have LR := Lib.hid (show (li (rft (clo ns ns.length) ns.length)).length = ns.length by rw [li_length, rft_length, clo_length])
  have ER := Lib.hid (rft_rch ns x hx)
  have HPa := Lib.hid (fun W (hW : Below w.heap.size w W) => impl_partOfModel ns us (rch ns x) A0 A1 c0 c1 W (hm.below hW) h1 hR)
  have hpt := pt_md ns us (rch ns x) h1 hR
  rw [← ptr_length ns (rch ns x)] at HPa hk
  have hp8 : (ptr ns (rch ns x)).length ≤ 8 := hpt.r.1
  have HMe := Lib.hid (fun W => impl_membersOf (rch ns x) W (by omega))
  have HML := Lib.hid (show (mems (rch ns x)).length = (ptr ns (rch ns x)).length from (ptr_length _ _).symm)
  have HIx := Lib.hid (fun v W (hW : Sl cI W v (mems (rch ns x))) => slices_Index_int64 v (mems (rch ns x)) x k W hW (by rw [HML.out]; omega) (by rw [HML.out]; exact hk) hk1 hk2)
  clear hk1 hk2 hb0 hb1 hk0 hk3 hm h1 hok hR hR256
  generalize ptr ns (rch ns x) = PT at *
  generalize ptv us (rch ns x) = PV at *
  generalize mems (rch ns x) = ms at *
  have HQ := Lib.hid (fun A B c d W (hW : Mdl W (.slice A PT.length c) (.slice B 6 d) PT PV) => impl_quotientModel PT PV A B c d W hW hpt)
  have LC := Lib.hid (show (li (qcl PT PV)).length = PT.length by rw [li_length, qcl_length])
  clear hpt
  generalize qn PT PV = n at *
  generalize qcl PT PV = cl at *
  generalize li (qrl cl PT n PT.length) = rs at *
  generalize li (qvl cl PV) = vs at *
  go_enter Try.func6, Try.ntmps6
  go_upto_region 1 with fail
  generalize World.alloc (w.alloc _) _ = W at *
  have k0 := HK0.out.cell
  have l0 := HK0.out.lt
  go_wp2_with fail
  refine (HI.out _ HB.out).mono ?_
  rintro e w1 ⟨rfl, hb⟩
  have HB1 := Lib.hid (bthen HB.out hb)
  have HKa := Lib.hid (HK0.out.below hb l0)
  have HKb := Lib.hid (HK1.out.below hb HK1.out.lt)
  clear k0 l0 hb HK0 HK1 HB HI
  have k0 := HKa.out.cell
  have l0 := HKa.out.lt
  go_wp2_with fail
  refine (HW.out _).mono ?_
  rintro e w2 ⟨rfl, hb⟩
  rw [EW.out]
  have HB2 := Lib.hid (bthen HB1.out hb)
  have HKc := Lib.hid (HKa.out.below hb l0)
  have HKd := Lib.hid (HKb.out.below hb HKb.out.lt)
  clear k0 l0 hb HKa HKb HB1 HW
  have k0 := HKc.out.cell
  have l0 := HKc.out.lt
  go_wp2_with fail
  refine (HRe.out _ HB2.out).mono ?_
  rintro e w3 ⟨u, rfl, ho, hb⟩
  obtain ⟨Au, cu, rfl⟩ := ho.opn
  have HB3 := Lib.hid (bthen HB2.out hb)
  have HKe := Lib.hid (HKc.out.below hb l0)
  have HKf := Lib.hid (HKd.out.below hb HKd.out.lt)
  clear k0 l0 hb HKc HKd HB2 HRe
  obtain ⟨b, o, rfl, hbl, hc0⟩ := ho.sl.atI (k := x) (by rw [LR.out]; exact hx)
  rw [li_get, ER.out] at hc0
  rw [LR.out]
  clear ho
  have hxi : (x : Int) < (ns.length : Int) := by omega
  have k0 := HKe.out.cell
  have l0 := HKe.out.lt
  go_wp2_with fail
  refine (HPa.out _ HB3.out).mono ?_
  rintro e w4 ⟨B1, d1, B2, d2, H, rfl, hH1, hH2, ho1, ho2, hb⟩
  have HB4 := Lib.hid (bthen HB3.out hb)
  have HKg := Lib.hid (HKf.out.below hb HKf.out.lt)
  have HMd : Hid (Mdl w4 (.slice B1 PT.length d1) (.slice B2 6 d2) PT PV) := Lib.hid ⟨ho1.1.sl, ho2.1.sl⟩
  clear k0 l0 hb hc0 hbl ho1 ho2 hH1 hH2 HKe HKf HB3
  go_wp2_with fail
  refine (HQ.out _ _ _ _ _ HMd.out).mono ?_
  rintro e w5 ⟨B1', d1', B2', d2', B3, d3, H5, rfl, hH1, hH2, ho1, ho2, ho3, hb⟩
  have HB5 := Lib.hid (bthen HB4.out hb)
  have HKh := Lib.hid (HKg.out.below hb HKg.out.lt)
  have hw1 : w.heap.size + 1 < w4.heap.size := HKg.out.lt
  have Z1 := Lib.hid (ho1.1.mono hw1)
  have Z1b := Lib.hid ho1.2
  have Z2 := Lib.hid ho2
  have HCl := Lib.hid (show Ow cI 2 (w.heap.size + 2) w5 _ _ from ho3.mono hw1)
  clear hb HKg HB4 HMd ho1 ho2 ho3
  go_upto_region 7 with fail
  have HV := Lib.hid (below_alloc' w5 (.cells #[.int .i64 n, .slice B1' n d1', .slice B2' 6 d2'] 28))
  have HVs : Hid ((w5.alloc (.cells #[.int .i64 n, .slice B1' n d1', .slice B2' 6 d2'] 28)).heap.size = w5.heap.size + 1) := Lib.hid (by simp)
  have HP : Hid (Blk (w5.alloc (.cells #[.int .i64 n, .slice B1' n d1', .slice B2' 6 d2'] 28)) w5.heap.size 28 #[.int .i64 n, .slice B1' n d1', .slice B2' 6 d2']) := Lib.hid (Blk.new _ _ _)
  generalize World.alloc w5 _ = V at *
  have d0 := HP.out.cell 0
  have d1 := HP.out.cell 1
  have d2 := HP.out.cell 2
  have lP := HP.out.lt
  have hcl := HCl.out.below HV.out
  obtain ⟨b, c9, hv, hbB, hbl, -, -⟩ := hcl.form (by rw [LC.out]; omega)
  injection hv with hA hn hc
  subst hA hc
  obtain ⟨hc0, -, -, -⟩ := hcl.at1 (j := k) rfl (by rw [LC.out]; exact hk) rfl
  rw [li_get] at hc0
  clear hcl hn
  have hki : (k : Int) < (PT.length : Int) := by omega
  have hw9 : w.heap.size + 1 < H5 := by omega
  have hg5 : w.heap.size + 1 < w5.heap.size := HKh.out.lt
  have lV : w5.heap.size + 1 = V.heap.size := HVs.out.symm
  have T0 : Hid (TT w V.heap.size [(⟨w5.heap.size, 0, none⟩, .int .i64 n), (⟨w5.heap.size, 1, none⟩, .slice B1' n d1'), (⟨w5.heap.size, 2, none⟩, .slice B2' 6 d2'), (⟨b, k, none⟩, .int .i64 (cl.getD k 0 : Nat))] #[.int .i64 0, .slice none 0 0, .slice none 0 0] (.slice B1' n d1') (.slice B2' 6 d2') rs vs H5 V.drew) := Lib.hid
    (TT.drew ⟨HKh.out.below HV.out HKh.out.lt, Z1.out.below HV.out, Z2.out.1.below HV.out, Nat.le_refl _, bthen HB5.out HV.out, by simp [d0, d1, d2, hc0], by simp; omega, by simp; omega, hw9⟩)
  have T1 := Lib.hid (T0.out.store (.int .i64 n) (.slice B1' n d1') (.slice B2' 6 d2'))
  clear d0 d1 d2 hc0 HV HP Z1
  go_cut [5, 6] (fun p q X => p = .int .i64 (cl.getD k 0 : Nat) ∧ q = .int .i64 0 ∧ TT w V.heap.size [(⟨w5.heap.size, 0, none⟩, .int .i64 n), (⟨w5.heap.size, 1, none⟩, .slice B1' n d1'), (⟨w5.heap.size, 2, none⟩, .slice B2' 6 d2'), (⟨b, k, none⟩, .int .i64 (cl.getD k 0 : Nat))] #[.int .i64 n, .slice B1' n d1', .slice B2' 6 d2'] (.slice B1' n d1') (.slice B2' 6 d2') rs vs H5 X)
  case first =>
    obtain ⟨i1, i2, i3⟩ := And.intro T0.out.blk.cell (And.intro T0.out.blk.frozen T0.out.blk.lt)
    go_region_held3 (fun X => X.cell? ⟨w5.heap.size, 0, none⟩ = some (.int .i64 n) ∧ X.cell? ⟨w5.heap.size, 1, none⟩ = some (.slice B1' n d1') ∧ X.cell? ⟨w5.heap.size, 2, none⟩ = some (.slice B2' 6 d2') ∧ X.cell? ⟨b, k, none⟩ = some (.int .i64 (cl.getD k 0 : Nat))) (first | exact T0.out.four | exact T1.out.four | exact T6.out.four | exact T7.out.four) (first | (go_at_call 21; refine (HMe.out _).mono ?_; rintro e w6 ⟨vm, rfl, hv, hb⟩; first | (have T6 := Lib.hid (T0.out.below hb); have T7 := Lib.hid (T6.out.store (.int .i64 n) (.slice B1' n d1') (.slice B2' 6 d2')); obtain ⟨k1, k2, k3⟩ := And.intro T6.out.blk.cell (And.intro T6.out.blk.frozen T6.out.blk.lt); have HVm := Lib.hid (hv.mono (T0.out.sz2 hg5 lV))) | (have T6 := Lib.hid (T1.out.below hb); have T7 := Lib.hid (T6.out); have HVm := Lib.hid (hv.mono (T1.out.sz2 hg5 lV)))) | (go_at_call 20; refine (HIx.out _ _ (by first | exact HVm.out.sl | exact (((HVm.out.setBelow (Nat.lt_succ_self _) _).setBelow (Nat.lt_succ_self _) _).setBelow (Nat.lt_succ_self _) _).sl)).mono ?_; rintro e w7 ⟨rfl, rfl⟩))
    all_goals
      go_wp2_with fail
      go_meet
      first
        | exact ⟨rfl, rfl, T6.out⟩
        | exact ⟨rfl, rfl, T7.out⟩
        | exact ⟨rfl, rfl, T1.out⟩
  case rest =>
    obtain ⟨rfl, rfl, T⟩ := hcut
    have rc := T.blk.cell
    have rf := T.blk.frozen
    have rl := T.blk.lt
    have Y1 := Lib.hid T.o1
    have Y2 := Lib.hid T.o2
    have Y3 := Lib.hid T.be
    have Y4 := Lib.hid T.sz
    clear T T0 T1
    go_wp2
    refine bodyPost_ret (v := .tuple #[.agg #[.int .i64 n, .slice B1' n d1', .slice B2' 6 d2'], .int .i64 (cl.getD k 0 : Nat), .int .i64 0]) (by simp [results, Try.results6, go_sem, rc, rf, rl]) rfl ⟨_, _, rfl, ⟨H5, by omega, by have := Y4.out; omega, ⟨Y1.out.mono (by omega), Z1b.out⟩, ⟨Y2.out, fun g hg => ?_⟩⟩, Y3.out⟩
    have := Z2.out.2 g hg
    have := Y4.out
    omega
theorem impl_ReducedModel_bad (n : Int) (x : Int) (va vu : Value) (xs vs : List Int) (w : World) (ha : Sl cI w va xs) (hu : Sl cI w vu vs) (hl : xs.length ≤ 1048576) (hl' : vs.length ≤ 1048576) (hc : mdOk n xs vs = false) :
    Calls Try.prog 6 #[.agg #[.int .i64 n, va, vu], .int .i64 x] w fun e w' => e = .returned (.tuple #[.agg #[.int .i64 0, .slice none 0 0, .slice none 0 0], .int .i64 0, .int .i64 1]) ∧ Below w.heap.size w w' := by
  obtain ⟨A0, c0, rfl⟩ := ha.opn
  obtain ⟨A1, c1, rfl⟩ := hu.opn
  have hb0 := below_alloc' w (.cells #[.int .i64 n, .slice A0 xs.length c0, .slice A1 vs.length c1] 28)
  have hk0 := Blk.new w 28 #[.int .i64 n, .slice A0 xs.length c0, .slice A1 vs.length c1]
  have hb1 := below_alloc' (w.alloc (.cells #[.int .i64 n, .slice A0 xs.length c0, .slice A1 vs.length c1] 28)) (.cells #[.int .i64 0, .slice none 0 0, .slice none 0 0] 28)
  have hk1 : Blk _ (w.heap.size + 1) _ _ := Blk.new' (w.alloc (.cells #[.int .i64 n, .slice A0 xs.length c0, .slice A1 vs.length c1] 28)) 28 #[.int .i64 0, .slice none 0 0, .slice none 0 0] (by simp)
  have HB := Lib.hid (bthen hb0 hb1)
  have HK0 := Lib.hid (hk0.below hb1 hk0.lt)
  have HK1 := Lib.hid hk1
  have HI := Lib.hid (fun W (hW : Below w.heap.size w W) => hc ▸ impl_isModel n _ _ xs vs W (ha.below hW) (hu.below hW) (by omega) (by omega))
  clear ha hu hb0 hb1 hk0 hk1 hc
  go_enter Try.func6, Try.ntmps6
  go_upto_region 1 with fail
  generalize World.alloc (w.alloc _) _ = W at *
  have k0 := HK0.out.cell
  have l0 := HK0.out.lt
  go_wp2_with fail
  refine (HI.out _ HB.out).mono ?_
  rintro e w1 ⟨rfl, hb⟩
  have HB1 := Lib.hid (bthen HB.out hb)
  have hr1 := HK1.out.below hb HK1.out.lt
  have rc := hr1.cell
  have rf := hr1.frozen
  have rl := hr1.lt
  clear k0 hb hr1
  go_wp2
  refine bodyPost_ret (v := .tuple #[.agg #[.int .i64 0, .slice none 0 0, .slice none 0 0], .int .i64 0, .int .i64 1]) (by simp [results, Try.results6, go_sem, rc, rf, rl]) rfl ⟨rfl, ?_⟩
  first | exact ((HB1.out.setCell (Nat.le_succ _) _).setCell (Nat.le_succ _) _).setCell (Nat.le_succ _) _ | exact HB1.out
theorem impl_ReducedModel_out (n : Int) (x : Int) (va vu : Value) (xs vs : List Int) (w : World) (ha : Sl cI w va xs) (hu : Sl cI w vu vs) (hl : xs.length ≤ 1048576) (hl' : vs.length ≤ 1048576) (hc : mdOk n xs vs = true) (hn : 0 ≤ n ∧ n ≤ 8) (hx : inR x 0 (n - 1) = false) :
    Calls Try.prog 6 #[.agg #[.int .i64 n, va, vu], .int .i64 x] w fun e w' => e = .returned (.tuple #[.agg #[.int .i64 0, .slice none 0 0, .slice none 0 0], .int .i64 0, .int .i64 2]) ∧ Below w.heap.size w w' := by
  obtain ⟨A0, c0, rfl⟩ := ha.opn
  obtain ⟨A1, c1, rfl⟩ := hu.opn
  have hb0 := below_alloc' w (.cells #[.int .i64 n, .slice A0 xs.length c0, .slice A1 vs.length c1] 28)
  have hk0 := Blk.new w 28 #[.int .i64 n, .slice A0 xs.length c0, .slice A1 vs.length c1]
  have hb1 := below_alloc' (w.alloc (.cells #[.int .i64 n, .slice A0 xs.length c0, .slice A1 vs.length c1] 28)) (.cells #[.int .i64 0, .slice none 0 0, .slice none 0 0] 28)
  have hk1 : Blk _ (w.heap.size + 1) _ _ := Blk.new' (w.alloc (.cells #[.int .i64 n, .slice A0 xs.length c0, .slice A1 vs.length c1] 28)) 28 #[.int .i64 0, .slice none 0 0, .slice none 0 0] (by simp)
  have HB := Lib.hid (bthen hb0 hb1)
  have HK0 := Lib.hid (hk0.below hb1 hk0.lt)
  have HK1 := Lib.hid hk1
  have HI := Lib.hid (fun W (hW : Below w.heap.size w W) => hc ▸ impl_isModel n _ _ xs vs W (ha.below hW) (hu.below hW) (by omega) (by omega))
  have EW := Lib.hid hx
  have HW := Lib.hid (fun W => impl_hasWorld n x (.slice A0 xs.length c0) A0 xs.length c0 rfl W hn)
  clear ha hu hb0 hb1 hk0 hk1 hc hx
  go_enter Try.func6, Try.ntmps6
  go_upto_region 1 with fail
  generalize World.alloc (w.alloc _) _ = W at *
  have k0 := HK0.out.cell
  have l0 := HK0.out.lt
  go_wp2_with fail
  refine (HI.out _ HB.out).mono ?_
  rintro e w1 ⟨rfl, hb⟩
  have HB1 := Lib.hid (bthen HB.out hb)
  have HKa := Lib.hid (HK0.out.below hb l0)
  have HKb := Lib.hid (HK1.out.below hb HK1.out.lt)
  clear k0 l0 hb HK0 HK1 HB HI
  have k0 := HKa.out.cell
  have l0 := HKa.out.lt
  go_wp2_with fail
  refine (HW.out _).mono ?_
  rintro e w2 ⟨rfl, hb⟩
  rw [EW.out]
  have HB2 := Lib.hid (bthen HB1.out hb)
  have hr1 := HKb.out.below hb HKb.out.lt
  have rc := hr1.cell
  have rf := hr1.frozen
  have rl := hr1.lt
  clear k0 hb hr1
  go_wp2
  refine bodyPost_ret (v := .tuple #[.agg #[.int .i64 0, .slice none 0 0, .slice none 0 0], .int .i64 0, .int .i64 2]) (by simp [results, Try.results6, go_sem, rc, rf, rl]) rfl ⟨rfl, ?_⟩
  first | exact ((HB2.out.setCell (Nat.le_succ _) _).setCell (Nat.le_succ _) _).setCell (Nat.le_succ _) _ | exact HB2.out
/- Contracts of chapters 5 and 7, of the reference: PartOfModel and ReducedModel. -/
set_option maxHeartbeats 2000000 in
set_option maxRecDepth 100000 in
theorem spec_PartOfModel_ok (ns us : List Nat) (on F : Nat) (A0 A1 : Option Addr) (c0 c1 : Nat) (w : World) (hm : Mdl w (.slice A0 ns.length c0) (.slice A1 6 c1) ns us) (h1 : MdN ns us) (hok : mdOk ns.length (li ns) (li us) = true) (hon : on < 2 ^ ns.length) :
    Calls Try.prog 26 #[.agg #[.int .i64 ns.length, .slice A0 ns.length c0, .slice A1 6 c1], .int .i64 on] w
      fun e w' => ∃ B1 d1 B2 d2, e = .returned (.tuple #[.agg #[.int .i64 (ptr ns on).length, .slice B1 (ptr ns on).length d1, .slice B2 6 d2], .int .i64 0]) ∧ Mdl w' (.slice B1 (ptr ns on).length d1) (.slice B2 6 d2) (ptr ns on) (ptv us on) ∧ Below w.heap.size w w' := by
  have h8 := h1.r.1
  have ho256 := Nat.lt_of_lt_of_le hon (two_pow_256 h8)
  have hb0 := below_alloc' w (.cells #[.int .i64 ns.length, .slice A0 ns.length c0, .slice A1 6 c1] 28)
  have hk0 := Blk.new w 28 #[.int .i64 ns.length, .slice A0 ns.length c0, .slice A1 6 c1]
  have hb1 := below_alloc' (w.alloc (.cells #[.int .i64 ns.length, .slice A0 ns.length c0, .slice A1 6 c1] 28)) (.cells #[.int .i64 0, .slice none 0 0, .slice none 0 0] 28)
  have hk1 : Blk _ (w.heap.size + 1) _ _ := Blk.new' (w.alloc (.cells #[.int .i64 ns.length, .slice A0 ns.length c0, .slice A1 6 c1] 28)) 28 #[.int .i64 0, .slice none 0 0, .slice none 0 0] (by simp)
  have HB := Lib.hid (bthen hb0 hb1)
  have HK0 := Lib.hid (hk0.below hb1 hk0.lt)
  have HK1 := Lib.hid hk1
  have E1 := Lib.hid (li_length ns)
  have E2 := Lib.hid (show (li us).length = 6 by rw [li_length, h1.l])
  have HI := Lib.hid (fun W (hW : Below w.heap.size w W) => hok ▸ spec_l06Is ns.length _ _ (li ns) (li us) W (hm.a.below hW) (hm.u.below hW) (by rw [E1.out]; omega) (by rw [E2.out]; omega))
  have HSt := Lib.hid (fun W => spec_l05Set_in ns.length on _ (.slice A0 ns.length c0) A0 ns.length c0 rfl W h8 rfl hon)
  have HLi := Lib.hid (fun W => spec_l01List on W (by omega))
  have HSq := Lib.hid (fun v m W (hW : Sl cI W v (mems on)) (hm : m < 256) => spec_l05Squeeze v m on W hW hm ho256)
  have HPa := Lib.hid (fun W (hW : Below w.heap.size w W) => spec_l05Part _ ns on W (hm.a.below hW) h1.r hon)
  have HX := Lib.hid (fun j => Nat.lt_of_lt_of_le (getD_lt h1.b j) (two_pow_256 h8))
  have HU := Lib.hid hm.u
  have HT := Lib.hid (fun (j : Nat) (hj : j < 6) => ptv_take us on (j := j) (by rw [h1.l]; exact hj))
  have HT0 := Lib.hid (show (ptv us on).take 6 = ptv us on from List.take_of_length_le (by rw [ptv_length, h1.l]; exact Nat.le_refl _))
  have HTL := Lib.hid (fun (j : Nat) (hj : j ≤ 6) => show (li ((ptv us on).take j)).length = j by rw [li_length, List.length_take, ptv_length, h1.l]; omega)
  have LP := Lib.hid (li_length (ptr ns on))
  have HFN : Hid (2 ^ ns.length - 1 < 256) := Lib.hid (by have := two_pow_256 h8; omega)
  clear hb0 hb1 hk0 hk1 hm h1 hon hok
  generalize hpt : ptr ns on = pt at *
  generalize hpv : ptv us on = pv at *
  generalize hms : mems on = ms at *
  clear hpv hpt hms
  go_enter Try.func26, Try.ntmps26
  go_upto_region 1 with fail
  generalize World.alloc (w.alloc _) _ = W at *
  have k0 := HK0.out.cell
  have l0 := HK0.out.lt
  go_wp2_with fail
  refine (HI.out _ HB.out).mono ?_
  rintro e w1 ⟨rfl, hb⟩
  have HB1 := Lib.hid (bthen HB.out hb)
  have HKa := Lib.hid (HK0.out.below hb l0)
  have HKb := Lib.hid (HK1.out.below hb HK1.out.lt)
  clear k0 l0 hb HK0 HK1 HB HI
  have k0 := HKa.out.cell
  have l0 := HKa.out.lt
  go_wp2_with fail
  refine (HSt.out _).mono ?_
  rintro e w2 ⟨rfl, hb⟩
  have HB2 := Lib.hid (bthen HB1.out hb)
  have HKc := Lib.hid (HKa.out.below hb l0)
  have HKd := Lib.hid (HKb.out.below hb HKb.out.lt)
  clear k0 l0 hb HKa HKb HB1 HSt
  go_wp2_with fail
  refine (HLi.out _).mono ?_
  rintro e w3 ⟨vm, rfl, hv, hb⟩
  obtain ⟨A2, c2, rfl⟩ := hv.opn
  have HMs := Lib.hid hv.sl
  have HB3 := Lib.hid (bthen HB2.out hb)
  have HKe := Lib.hid (HKc.out.below hb HKc.out.lt)
  have HKf := Lib.hid (HKd.out.below hb HKd.out.lt)
  clear hv hb HB2 HKc HKd HLi
  go_wp2
  go_loopw [7, 8] (fun ov i wr => ∃ j : Nat, j ≤ 6 ∧ i = .int .i64 j ∧ Ow cI 2 w3.heap.size wr ov (li (pv.take j)) ∧ Below w3.heap.size w3 wr) (fun _ i _ => 6 - (intOf i).toNat)
  case atStart => exact ⟨0, Nat.zero_le _, rfl, Ow.lit [] rfl rfl (Nat.le_refl _), (Below.refl _ _).alloc (Nat.le_refl _) _⟩
  case round =>
    obtain ⟨j, hj, rfl, hov, hb2⟩ := hrel
    have hb : Below w.heap.size w wr := HB3.out.trans (hb2.mono HB3.out.size)
    have HBr := Lib.hid hb
    have HBr2 := Lib.hid hb2
    have hszr := hb2.size
    obtain ⟨Av, cv, rfl⟩ := hov.opn
    rw [HTL.out j hj] at hov ⊢
    have HOV := Lib.hid hov
    have HKr := Lib.hid (HKe.out.below hb2 HKe.out.lt)
    have HKs := Lib.hid (HKf.out.below hb2 HKf.out.lt)
    have k0 := HKr.out.cell 0
    have k1 := HKr.out.cell 1
    have k2 := HKr.out.cell 2
    simp only [List.getElem?_toArray, List.getElem?_cons_zero, List.getElem?_cons_succ] at k0 k1 k2
    have l1 := HKr.out.lt
    clear hov
    by_cases hlt : j < 6
    · obtain ⟨b, o, hA1, hbl, hc0⟩ := (show Sl cI wr (.slice A1 (li us).length c1) (li us) by rw [E2.out]; exact HU.out.below hb).atI (k := j) (by rw [E2.out]; exact hlt)
      subst hA1
      rw [li_get] at hc0
      have hx256 := HX.out j
      have HS := Lib.hid (HT.out j hlt)
      have HL := Lib.hid (HTL.out j (by omega))
      have hjn2 : (j : Int) < 6 := by omega
      obtain ⟨m, hmm⟩ : ∃ m, us.getD j 0 = m := ⟨_, rfl⟩
      rw [hmm] at hc0 hx256 HS
      have HMr := Lib.hid (HMs.out.below hb2)
      obtain ⟨xs, hxs⟩ : ∃ xs, li (pv.take j) = xs := ⟨_, rfl⟩
      rw [hxs] at HOV HL
      have HXE : Hid (li (pv.take (j + 1)) = xs ++ [((sqz m on : Nat) : Int)]) := Lib.hid (by rw [HS.out]; unfold li; rw [List.map_append, ← hxs]; rfl)
      clear hmm hb hb2 hxs
      go_wp2_with fail
      refine (HSq.out _ m _ HMr.out hx256).mono ?_
      rintro e w6 ⟨rfl, rfl⟩
      go_wp2_with (at_builtin; refine stopHere ?_)
      refine goHere ?_
      refine ap_one (K := cI) _ ty_int64 rfl _ _ rfl (B := w3.heap.size) (xs := xs) rfl HOV.out ((sqz m on : Nat) : Int) rfl rfl (by have := HL.out; omega) hszr ?_
      intro v1 w8 ho1 hg1 hb1 hat1
      have HO1 : Hid (Ow cI 2 w3.heap.size w8 v1 (li (pv.take (j + 1)))) := Lib.hid (by rw [HXE.out]; exact ho1)
      have HB5 : Hid (Below w3.heap.size w3 w8) := Lib.hid (HBr2.out.trans hb1)
      clear ho1 hg1 hb1 hat1 hc0 k0 k1 k2
      go_wp2
      go_roundw
      case rel => exact ⟨j + 1, by omega, by go_num, HO1.out, HB5.out⟩
      case measure => simp [intOf]; omega
    · obtain rfl : j = 6 := by omega
      rw [HT0.out] at HOV
      clear hb hb2
      go_wp2_with fail
      refine (HPa.out _ HBr.out).mono ?_
      rintro e w5 ⟨u, rfl, ho, hb⟩
      obtain ⟨A5, c5, rfl⟩ := ho.opn
      rw [LP.out] at ho ⊢
      have hr1 := HKs.out.below hb HKs.out.lt
      have rc := hr1.cell
      have rf := hr1.frozen
      have rl := hr1.lt
      have hlr := HKs.out.lt
      have hlf := HKf.out.lt
      have Z1 := Lib.hid (show Ow cI 2 (w.heap.size + 2) w5 _ _ from ho.mono hlr)
      have Z3 := Lib.hid (show Ow cI 2 (w.heap.size + 2) w5 _ _ from (HOV.out.below hb).mono hlf)
      have Z2 := Lib.hid (bthen HBr.out hb)
      clear ho hb hr1 k0 k1 k2
      go_wp2
      refine bodyPost_ret (v := .tuple #[.agg #[.int .i64 pt.length, .slice A5 pt.length c5, .slice Av 6 cv], .int .i64 0]) (by simp [results, Try.results26, go_sem, rc, rf, rl]) rfl ⟨_, _, _, _, rfl, ⟨?_, ?_⟩, ?_⟩
      · exact (((Z1.out.setBelow (Nat.lt_succ_self _) _).setBelow (Nat.lt_succ_self _) _).setBelow (Nat.lt_succ_self _) _).sl
      · exact (((Z3.out.setBelow (Nat.lt_succ_self _) _).setBelow (Nat.lt_succ_self _) _).setBelow (Nat.lt_succ_self _) _).sl
      · exact ((Z2.out.setCell (Nat.le_succ _) _).setCell (Nat.le_succ _) _).setCell (Nat.le_succ _) _
/- Contracts of ReducedModel, of the reference. -/
theorem cells4 {X : World} {p0 p1 p2 p3 : Addr} {x0 x1 x2 x3 : Value} (h0 : X.cell? p0 = some x0) (h1 : X.cell? p1 = some x1) (h2 : X.cell? p2 = some x2) (h3 : X.cell? p3 = some x3) : ∀ p ∈ [(p0, x0), (p1, x1), (p2, x2), (p3, x3)], X.cell? p.1 = some p.2 := by simp [h0, h1, h2, h3]
set_option maxHeartbeats 2000000 in
set_option maxRecDepth 100000 in
theorem spec_ReducedModel_ok (ns us : List Nat) (x k : Nat) (A0 A1 : Option Addr) (c0 c1 : Nat) (w : World) (hm : Mdl w (.slice A0 ns.length c0) (.slice A1 6 c1) ns us) (h1 : MdN ns us) (hok : mdOk ns.length (li ns) (li us) = true) (hx : x < ns.length)
    (hk : k < (mems (rch ns x)).length) (hk1 : (mems (rch ns x))[k]? = some (x : Int)) (hk2 : ∀ j, j < k → ¬ (mems (rch ns x))[j]? = some (x : Int)) :
    Calls Try.prog 7 #[.agg #[.int .i64 ns.length, .slice A0 ns.length c0, .slice A1 6 c1], .int .i64 x] w
      fun e w' => ∃ u1 u2, e = .returned (.tuple #[.agg #[.int .i64 (qn (ptr ns (rch ns x)) (ptv us (rch ns x)) : Nat), u1, u2], .int .i64 ((qcl (ptr ns (rch ns x)) (ptv us (rch ns x))).getD k 0 : Nat), .int .i64 0]) ∧
        Ow cI 2 w.heap.size w' u1 (li (qrl (qcl (ptr ns (rch ns x)) (ptv us (rch ns x))) (ptr ns (rch ns x)) (qn (ptr ns (rch ns x)) (ptv us (rch ns x))) (ptr ns (rch ns x)).length)) ∧ Ow cI 2 w.heap.size w' u2 (li (qvl (qcl (ptr ns (rch ns x)) (ptv us (rch ns x))) (ptv us (rch ns x)))) ∧ Below w.heap.size w w' := by
  have hb0 := below_alloc' w (.cells #[.int .i64 ns.length, .slice A0 ns.length c0, .slice A1 6 c1] 28)
  have hk0 := Blk.new w 28 #[.int .i64 ns.length, .slice A0 ns.length c0, .slice A1 6 c1]
  have hb1 := below_alloc' (w.alloc (.cells #[.int .i64 ns.length, .slice A0 ns.length c0, .slice A1 6 c1] 28)) (.cells #[.int .i64 0, .slice none 0 0, .slice none 0 0] 28)
  have hk3 : Blk _ (w.heap.size + 1) _ _ := Blk.new' (w.alloc (.cells #[.int .i64 ns.length, .slice A0 ns.length c0, .slice A1 6 c1] 28)) 28 #[.int .i64 0, .slice none 0 0, .slice none 0 0] (by simp)
  have HB := Lib.hid (bthen hb0 hb1)
  have HK0 := Lib.hid (hk0.below hb1 hk0.lt)
  have HK1 := Lib.hid hk3
  have E1 := Lib.hid (li_length ns)
  have E2 := Lib.hid (show (li us).length = 6 by rw [li_length, h1.l])
  have h8 := h1.r.1
  have hR : rch ns x < 2 ^ ns.length := rch_lt ns h1.r.2 hx
  have hR256 := Nat.lt_of_lt_of_le hR (two_pow_256 h8)
  have HI := Lib.hid (fun W (hW : Below w.heap.size w W) => hok ▸ spec_l06Is ns.length _ _ (li ns) (li us) W (hm.a.below hW) (hm.u.below hW) (by rw [E1.out]; omega) (by rw [E2.out]; omega))
  have EW : Hid (inR (x : Int) 0 ((ns.length : Int) - 1) = true) := Lib.hid (inR_true (by omega) (by omega))
  have HW := Lib.hid (fun W => spec_l05World (ns.length : Int) (x : Int) (.slice A0 ns.length c0) A0 ns.length c0 rfl W ⟨by omega, by omega⟩)
  have HRe := Lib.hid (fun W (hW : Below w.heap.size w W) => spec_l05Reach _ ns x W (hm.a.below hW) h1.r hx)
  have HOn := Lib.hid (fun W => spec_l01One (x : Int) W (by omega) (by omega))
  have EO : Hid ((2 : Int) ^ x = ((2 ^ x : Nat) : Int)) := Lib.hid (by rw [cast_two_pow])
  have HPa := Lib.hid (fun W (hW : Below w.heap.size w W) => spec_PartOfModel_ok ns us (rch ns x) 0 A0 A1 c0 c1 W (hm.below hW) h1 hok hR)
  have hpt := pt_md ns us (rch ns x) h1 hR
  rw [← ptr_length ns (rch ns x)] at hk
  have hp8 : (ptr ns (rch ns x)).length ≤ 8 := hpt.r.1
  have HMe := Lib.hid (fun W => spec_l01List (rch ns x) W (by omega))
  have HML := Lib.hid (show (mems (rch ns x)).length = (ptr ns (rch ns x)).length from (ptr_length _ _).symm)
  have HIx := Lib.hid (fun v W (hW : Sl cI W v (mems (rch ns x))) => spec_l01Index v (mems (rch ns x)) x k W hW (by rw [HML.out]; omega) (by rw [HML.out]; exact hk) hk1 hk2)
  clear hk1 hk2 hb0 hb1 hk0 hk3 hm h1 hok hR hR256
  generalize ptr ns (rch ns x) = PT at *
  generalize ptv us (rch ns x) = PV at *
  generalize mems (rch ns x) = ms at *
  have HC : Hid (∀ A B c d W, Mdl W (.slice A PT.length c) (.slice B 6 d) PT PV → Calls Try.prog 27 #[.agg #[.int .i64 PT.length, .slice A PT.length c, .slice B 6 d]] W fun e w' => ∃ A c, e = .returned (.slice A PT.length c) ∧ Ow cI 2 W.heap.size w' (.slice A PT.length c) (li (qcl PT PV)) ∧ Below W.heap.size W w') := Lib.hid (fun A B c d W hW => spec_l07Classes PT PV A B c d W hW hpt)
  have HQ := Lib.hid (fun A B A2 c d c2 W (hW : Mdl W (.slice A PT.length c) (.slice B 6 d) PT PV) (hc : Sl cI W (.slice A2 PT.length c2) (li (qcl PT PV))) => spec_l07Quotient PT PV (qcl PT PV) (qn PT PV) rfl A B A2 c d c2 W hW hpt hc (qcl_length PT PV) (qcl_lt PT PV hp8))
  have LC := Lib.hid (show (li (qcl PT PV)).length = PT.length by rw [li_length, qcl_length])
  clear hpt
  generalize qn PT PV = n at *
  generalize qcl PT PV = cl at *
  generalize li (qrl cl PT n PT.length) = rs at *
  generalize li (qvl cl PV) = vs at *
  go_enter Try.func7, Try.ntmps7
  go_upto_region 1 with fail
  generalize World.alloc (w.alloc _) _ = W at *
  have k0 := HK0.out.cell
  have l0 := HK0.out.lt
  go_wp2_with fail
  refine (HI.out _ HB.out).mono ?_
  rintro e w1 ⟨rfl, hb⟩
  have HB1 := Lib.hid (bthen HB.out hb)
  have HKa := Lib.hid (HK0.out.below hb l0)
  have HKb := Lib.hid (HK1.out.below hb HK1.out.lt)
  clear k0 l0 hb HK0 HK1 HB HI
  have k0 := HKa.out.cell
  have l0 := HKa.out.lt
  go_wp2_with fail
  refine (HW.out _).mono ?_
  rintro e w2 ⟨rfl, hb⟩
  rw [EW.out]
  have HB2 := Lib.hid (bthen HB1.out hb)
  have HKc := Lib.hid (HKa.out.below hb l0)
  have HKd := Lib.hid (HKb.out.below hb HKb.out.lt)
  clear k0 l0 hb HKa HKb HB1 HW
  have k0 := HKc.out.cell 0
  have k1 := HKc.out.cell 1
  simp only [List.getElem?_toArray, List.getElem?_cons_zero, List.getElem?_cons_succ] at k0 k1
  have l0 := HKc.out.lt
  go_upto_region 5 with fail
  refine wp_region_sched (Below w2.heap.size w2) 5 [0, 1, 2] [0, 1, 2, 3, 4] (by kernel_rfl) (by kernel_rfl) (Below.refl _ _).drew ?_
  repeat
    apply wpSched_q rfl rfl
    case h =>
      intro w' hI K hK
      have k0' := (hI.cell (p := ⟨w.heap.size, 0, none⟩) l0).trans k0
      have k1' := (hI.cell (p := ⟨w.heap.size, 1, none⟩) l0).trans k1
      simp only [quietV, stillV]
      go_simp
      exact hK
    go_simp
  refine wpSched_r rfl rfl ?_ (Below.refl _ _).drew
  intro K hK _
  go_simp
  refine (HOn.out _).mono ?_
  rintro e w6 ⟨rfl, rfl⟩
  refine hK _ _ (Below.refl _ _).drew ?_
  clear hK K
  refine wpSched_r rfl rfl ?_ (Below.refl _ _).drew
  intro K hK _
  go_simp
  rw [EO.out]
  refine (HRe.out _ (bthen HB2.out (Below.refl _ _).drew)).mono ?_
  rintro e w3 ⟨rfl, hb⟩
  have hb3 : Below w2.heap.size w2 w3 := (Below.refl _ _).drew.trans (hb.mono (Below.refl w2.heap.size w2).drew.size)
  refine hK _ _ hb3 ?_
  clear hK K hb
  refine wpSched_nil ?_
  try simp only [List.drop_succ_cons, List.drop_zero]
  have HB3 := Lib.hid (bthen HB2.out hb3)
  have HKe := Lib.hid (HKc.out.below hb3 l0)
  have HKf := Lib.hid (HKd.out.below hb3 HKd.out.lt)
  clear k0 k1 l0 hb3 HKc HKd HB2 HRe
  have k0 := HKe.out.cell
  have l0 := HKe.out.lt
  go_wp2_with fail
  refine (HPa.out _ HB3.out).mono ?_
  rintro e w4 ⟨B1, d1, B2, d2, rfl, hmd, hb⟩
  have HB4 := Lib.hid (bthen HB3.out hb)
  have HKg := Lib.hid (HKf.out.below hb HKf.out.lt)
  have HMd := Lib.hid hmd
  have hw1 : w.heap.size + 1 < w4.heap.size := HKg.out.lt
  clear k0 l0 hb hmd HKe HKf HB3
  go_upto_region 7 with fail
  have HV := Lib.hid (below_alloc' w4 (.cells #[.int .i64 PT.length, .slice B1 PT.length d1, .slice B2 6 d2] 28))
  have HP : Hid (Blk (w4.alloc (.cells #[.int .i64 PT.length, .slice B1 PT.length d1, .slice B2 6 d2] 28)) w4.heap.size 28 #[.int .i64 PT.length, .slice B1 PT.length d1, .slice B2 6 d2]) := Lib.hid (Blk.new _ _ _)
  generalize World.alloc w4 _ = V at *
  have k0 := HP.out.cell
  have l0 := HP.out.lt
  have HMV := Lib.hid (HMd.out.below HV.out)
  have HKh := Lib.hid (HKg.out.below HV.out HKg.out.lt)
  have HBV := Lib.hid (bthen HB4.out HV.out)
  clear HMd HKg HB4
  go_wp2_with fail
  refine (HC.out _ _ _ _ _ HMV.out).mono ?_
  rintro e w5 ⟨B3, d3, rfl, ho, hb⟩
  have HCl := Lib.hid (show Ow cI 2 (w.heap.size + 2) w5 _ _ from ho.mono HKh.out.lt)
  have HB5 := Lib.hid (bthen HBV.out hb)
  have HKi := Lib.hid (HKh.out.below hb HKh.out.lt)
  have HPi := Lib.hid (HP.out.below hb HP.out.lt)
  have HM5 := Lib.hid (HMV.out.below hb)
  clear k0 l0 ho hb HKh HP HMV HBV
  go_wp2_with fail
  refine (HMe.out _).mono ?_
  rintro e w6 ⟨vm, rfl, hv, hb⟩
  obtain ⟨A6, c6, rfl⟩ := hv.opn
  have HVm := Lib.hid hv.sl
  have HC6 := Lib.hid (HCl.out.below hb)
  have HB6 := Lib.hid (bthen HB5.out hb)
  have HKj := Lib.hid (HKi.out.below hb HKi.out.lt)
  have HPj := Lib.hid (HPi.out.below hb HPi.out.lt)
  have HM6 := Lib.hid (HM5.out.below hb)
  clear hv hb HCl HB5 HKi HPi HM5
  go_wp2_with fail
  refine (HIx.out _ _ HVm.out).mono ?_
  rintro e w7 ⟨rfl, rfl⟩
  go_upto_region 9 with fail
  have d0 := HPj.out.cell 0
  have d1' := HPj.out.cell 1
  have d2' := HPj.out.cell 2
  simp only [List.getElem?_toArray, List.getElem?_cons_zero, List.getElem?_cons_succ] at d0 d1' d2'
  have hcl := HC6.out
  obtain ⟨b, c9, hv, hbB, hbl, -, -⟩ := hcl.form (by rw [LC.out]; omega)
  injection hv with hA hn hc
  subst hA hc
  obtain ⟨hc0, -, -, -⟩ := hcl.at1 (j := k) rfl (by rw [LC.out]; exact hk) rfl
  rw [li_get] at hc0
  have lP := HPj.out.lt
  have hki : (k : Int) < (PT.length : Int) := by omega
  clear hcl hn
  have hcs : w6.cell? ⟨w4.heap.size, 0, none⟩ = some (.int .i64 PT.length) ∧ w6.cell? ⟨w4.heap.size, 1, none⟩ = some (.slice B1 PT.length d1) ∧ w6.cell? ⟨w4.heap.size, 2, none⟩ = some (.slice B2 6 d2) ∧ w6.cell? ⟨b, k, none⟩ = some (.int .i64 (cl.getD k 0 : Nat)) := ⟨d0, d1', d2', hc0⟩
  go_region_held3 (fun X => X.cell? ⟨w4.heap.size, 0, none⟩ = some (.int .i64 PT.length) ∧ X.cell? ⟨w4.heap.size, 1, none⟩ = some (.slice B1 PT.length d1) ∧ X.cell? ⟨w4.heap.size, 2, none⟩ = some (.slice B2 6 d2) ∧ X.cell? ⟨b, k, none⟩ = some (.int .i64 (cl.getD k 0 : Nat))) (first | exact hcs | exact T6.out.four | exact T7.out.four) (first | (go_at_call 30; refine (HQ.out _ _ _ _ _ _ _ (HM6.out.below (Below.refl _ _).drew) (HC6.out.sl.below (Below.refl _ _).drew)).mono ?_; rintro e w8 ⟨u1, u2, rfl, ho1, ho2, hb⟩; have hb8 : Below w6.heap.size w6 w8 := (Below.refl _ _).drew.trans (hb.mono (Below.refl w6.heap.size w6).drew.size); have hlj := HKj.out.lt; have hlj2 : w.heap.size + 2 ≤ w6.drew.heap.size := Nat.le_trans hlj (Below.refl w6.heap.size w6).drew.size; obtain ⟨C1, f1, rfl⟩ := ho1.opn; obtain ⟨C2, f2, rfl⟩ := ho2.opn; have T6 : Hid (TT w w6.heap.size [(⟨w4.heap.size, 0, none⟩, .int .i64 PT.length), (⟨w4.heap.size, 1, none⟩, .slice B1 PT.length d1), (⟨w4.heap.size, 2, none⟩, .slice B2 6 d2), (⟨b, k, none⟩, .int .i64 (cl.getD k 0 : Nat))] #[.int .i64 0, .slice none 0 0, .slice none 0 0] (.slice C1 rs.length f1) (.slice C2 vs.length f2) rs vs (w.heap.size + 2) w8) := Lib.hid ⟨HKj.out.below hb8 hlj, ho1.mono hlj2, ho2.mono hlj2, hb8.size, bthen HB6.out hb8, cells4 (((hb8.cell (p := ⟨w4.heap.size, 0, none⟩) lP).trans d0)) (((hb8.cell (p := ⟨w4.heap.size, 1, none⟩) lP).trans d1')) (((hb8.cell (p := ⟨w4.heap.size, 2, none⟩) lP).trans d2')) (((hb8.cell (p := ⟨b, k, none⟩) hbl).trans hc0)), by simp; omega, by simp; omega, by omega⟩; have T7 := Lib.hid (T6.out.store (.int .i64 n) (.slice C1 rs.length f1) (.slice C2 vs.length f2)); obtain ⟨i1, i2, i3⟩ := And.intro T6.out.blk.cell (And.intro T6.out.blk.frozen T6.out.blk.lt)))
  clear i1 i2 i3
  have rc := T7.out.blk.cell
  have rf := T7.out.blk.frozen
  have rl := T7.out.blk.lt
  go_wp2
  refine bodyPost_ret (v := .tuple #[.agg #[.int .i64 n, .slice C1 rs.length f1, .slice C2 vs.length f2], .int .i64 (cl.getD k 0 : Nat), .int .i64 0]) (by simp [results, Try.results7, go_sem, rc, rf, rl]) rfl ⟨_, _, rfl, T7.out.o1.mono (by omega), T7.out.o2.mono (by omega), T7.out.be⟩
theorem spec_ReducedModel_bad (n : Int) (x : Int) (va vu : Value) (xs vs : List Int) (w : World) (ha : Sl cI w va xs) (hu : Sl cI w vu vs) (hl : xs.length ≤ 1048576) (hl' : vs.length ≤ 1048576) (hc : mdOk n xs vs = false) :
    Calls Try.prog 7 #[.agg #[.int .i64 n, va, vu], .int .i64 x] w fun e w' => e = .returned (.tuple #[.agg #[.int .i64 0, .slice none 0 0, .slice none 0 0], .int .i64 0, .int .i64 1]) ∧ Below w.heap.size w w' := by
  obtain ⟨A0, c0, rfl⟩ := ha.opn
  obtain ⟨A1, c1, rfl⟩ := hu.opn
  have hb0 := below_alloc' w (.cells #[.int .i64 n, .slice A0 xs.length c0, .slice A1 vs.length c1] 28)
  have hk0 := Blk.new w 28 #[.int .i64 n, .slice A0 xs.length c0, .slice A1 vs.length c1]
  have hb1 := below_alloc' (w.alloc (.cells #[.int .i64 n, .slice A0 xs.length c0, .slice A1 vs.length c1] 28)) (.cells #[.int .i64 0, .slice none 0 0, .slice none 0 0] 28)
  have hk1 : Blk _ (w.heap.size + 1) _ _ := Blk.new' (w.alloc (.cells #[.int .i64 n, .slice A0 xs.length c0, .slice A1 vs.length c1] 28)) 28 #[.int .i64 0, .slice none 0 0, .slice none 0 0] (by simp)
  have HB := Lib.hid (bthen hb0 hb1)
  have HK0 := Lib.hid (hk0.below hb1 hk0.lt)
  have HK1 := Lib.hid hk1
  have HI := Lib.hid (fun W (hW : Below w.heap.size w W) => hc ▸ spec_l06Is n _ _ xs vs W (ha.below hW) (hu.below hW) (by omega) (by omega))
  clear ha hu hb0 hb1 hk0 hk1 hc
  go_enter Try.func7, Try.ntmps7
  go_upto_region 1 with fail
  generalize World.alloc (w.alloc _) _ = W at *
  have k0 := HK0.out.cell
  have l0 := HK0.out.lt
  go_wp2_with fail
  refine (HI.out _ HB.out).mono ?_
  rintro e w1 ⟨rfl, hb⟩
  have HB1 := Lib.hid (bthen HB.out hb)
  have hr1 := HK1.out.below hb HK1.out.lt
  have rc := hr1.cell
  have rf := hr1.frozen
  have rl := hr1.lt
  clear k0 hb hr1
  go_wp2
  refine bodyPost_ret (v := .tuple #[.agg #[.int .i64 0, .slice none 0 0, .slice none 0 0], .int .i64 0, .int .i64 1]) (by simp [results, Try.results7, go_sem, rc, rf, rl]) rfl ⟨rfl, ?_⟩
  first | exact ((HB1.out.setCell (Nat.le_succ _) _).setCell (Nat.le_succ _) _).setCell (Nat.le_succ _) _ | exact HB1.out
theorem spec_ReducedModel_out (n : Int) (x : Int) (va vu : Value) (xs vs : List Int) (w : World) (ha : Sl cI w va xs) (hu : Sl cI w vu vs) (hl : xs.length ≤ 1048576) (hl' : vs.length ≤ 1048576) (hc : mdOk n xs vs = true) (hn : 0 ≤ n ∧ n ≤ 8) (hx : inR x 0 (n - 1) = false) :
    Calls Try.prog 7 #[.agg #[.int .i64 n, va, vu], .int .i64 x] w fun e w' => e = .returned (.tuple #[.agg #[.int .i64 0, .slice none 0 0, .slice none 0 0], .int .i64 0, .int .i64 2]) ∧ Below w.heap.size w w' := by
  obtain ⟨A0, c0, rfl⟩ := ha.opn
  obtain ⟨A1, c1, rfl⟩ := hu.opn
  have hb0 := below_alloc' w (.cells #[.int .i64 n, .slice A0 xs.length c0, .slice A1 vs.length c1] 28)
  have hk0 := Blk.new w 28 #[.int .i64 n, .slice A0 xs.length c0, .slice A1 vs.length c1]
  have hb1 := below_alloc' (w.alloc (.cells #[.int .i64 n, .slice A0 xs.length c0, .slice A1 vs.length c1] 28)) (.cells #[.int .i64 0, .slice none 0 0, .slice none 0 0] 28)
  have hk1 : Blk _ (w.heap.size + 1) _ _ := Blk.new' (w.alloc (.cells #[.int .i64 n, .slice A0 xs.length c0, .slice A1 vs.length c1] 28)) 28 #[.int .i64 0, .slice none 0 0, .slice none 0 0] (by simp)
  have HB := Lib.hid (bthen hb0 hb1)
  have HK0 := Lib.hid (hk0.below hb1 hk0.lt)
  have HK1 := Lib.hid hk1
  have HI := Lib.hid (fun W (hW : Below w.heap.size w W) => hc ▸ spec_l06Is n _ _ xs vs W (ha.below hW) (hu.below hW) (by omega) (by omega))
  have EW := Lib.hid hx
  have HW := Lib.hid (fun W => spec_l05World n x (.slice A0 xs.length c0) A0 xs.length c0 rfl W hn)
  clear ha hu hb0 hb1 hk0 hk1 hc hx
  go_enter Try.func7, Try.ntmps7
  go_upto_region 1 with fail
  generalize World.alloc (w.alloc _) _ = W at *
  have k0 := HK0.out.cell
  have l0 := HK0.out.lt
  go_wp2_with fail
  refine (HI.out _ HB.out).mono ?_
  rintro e w1 ⟨rfl, hb⟩
  have HB1 := Lib.hid (bthen HB.out hb)
  have HKa := Lib.hid (HK0.out.below hb l0)
  have HKb := Lib.hid (HK1.out.below hb HK1.out.lt)
  clear k0 l0 hb HK0 HK1 HB HI
  have k0 := HKa.out.cell
  have l0 := HKa.out.lt
  go_wp2_with fail
  refine (HW.out _).mono ?_
  rintro e w2 ⟨rfl, hb⟩
  rw [EW.out]
  have HB2 := Lib.hid (bthen HB1.out hb)
  have hr1 := HKb.out.below hb HKb.out.lt
  have rc := hr1.cell
  have rf := hr1.frozen
  have rl := hr1.lt
  clear k0 hb hr1
  go_wp2
  refine bodyPost_ret (v := .tuple #[.agg #[.int .i64 0, .slice none 0 0, .slice none 0 0], .int .i64 0, .int .i64 2]) (by simp [results, Try.results7, go_sem, rc, rf, rl]) rfl ⟨rfl, ?_⟩
  first | exact ((HB2.out.setCell (Nat.le_succ _) _).setCell (Nat.le_succ _) _).setCell (Nat.le_succ _) _ | exact HB2.out
end Go.Proofs.Ytnolbgdbboiehaa

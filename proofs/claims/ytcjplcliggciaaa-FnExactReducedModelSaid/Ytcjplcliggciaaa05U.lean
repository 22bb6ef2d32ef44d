/- Contracts of chapters 1 and 5, of the reference: squeezing, parts of relations, places in lists, what is reached. -/
import Derived.Test.Ytcjplcliggciaaa05R
import Derived.Test.Ytcjplcliggciaaa05e
namespace Go.Proofs.Ytcjplcliggciaaa
open Go.RowKit
set_option linter.unusedVariables false
set_option linter.unusedSimpArgs false
theorem spec_l05Squeeze (v : Value) (m on : Nat) (w : World) (h : Sl cI w v (mems on)) (hm : m < 256) (ho : on < 256) :
    Calls Try.prog 159 #[v, .int .i64 m] w fun e w' => e = .returned (.int .i64 (sqz m on : Nat)) ∧ w = w' := by
  have HM8 := Lib.hid (mems8 (n := 8) ho)
  have HMM := Lib.hid (fun x (hx : x ∈ mems on) => mems_mem (n := 8) ho hx)
  have HE : Hid (sqTo m (mems on) (mems on).length = sqz m on) := Lib.hid rfl
  have HST : Hid (∀ k, sqTo m (mems on) (k + 1) = sqTo m (mems on) k ||| if m.testBit ((mems on).getD k 0).toNat then 2 ^ k else 0) := Lib.hid fun k => rfl
  have HZ : Hid (sqTo m (mems on) 0 = 0) := Lib.hid rfl
  have HLT := Lib.hid (sqTo_lt m (mems on))
  obtain ⟨A, c, rfl⟩ := h.opn
  generalize sqz m on = R at *
  generalize mems on = ms at *
  have h8 := HM8.out
  go_enter Try.func159, Try.ntmps159
  go_wp2
  go_loop [5, 6] (fun t i => ∃ j : Nat, j ≤ ms.length ∧ i = .int .i64 j ∧ t = .int .i64 (sqTo m ms j : Nat)) (fun _ i => ms.length - (intOf i).toNat)
  case atStart => exact ⟨0, Nat.zero_le _, rfl, by rw [HZ.out]; rfl⟩
  case round =>
    obtain ⟨j, hj, rfl, rfl⟩ := hrel
    by_cases hlt : j < ms.length
    · obtain ⟨b, o, rfl, hbl, hc0⟩ := h.atI hlt
      obtain ⟨x, hxx, hxn⟩ := HMM.out ms[j] (List.getElem_mem hlt)
      have HS : Hid (sqTo m ms (j + 1) = sqTo m ms j ||| if m.testBit x then 2 ^ j else 0) := Lib.hid (by rw [HST.out, List.getD_eq_getElem?_getD, List.getElem?_eq_getElem hlt, Option.getD_some, hxx, Int.toNat_natCast])
      rw [hxx] at hc0
      have hq : sqTo m ms j < 256 := Nat.lt_of_lt_of_le (HLT.out j) (show 2 ^ j ≤ 2 ^ 8 from Nat.pow_le_pow_right (by omega) (by omega))
      clear hxx
      generalize sqTo m ms j = q at *
      go_wp2_with fail
      refine (spec_l01Bit m x _ (by omega) (by omega)).mono ?_
      rintro e w2 ⟨rfl, rfl⟩
      cases ht : m.testBit x
      · rw [ht] at HS
        clear ht
        go_wp2
        go_round
        case rel => exact ⟨j + 1, by omega, by go_num, by rw [HS.out]; simp⟩
        case measure => simp [intOf]; omega
      · rw [ht] at HS
        clear ht
        have e2 := i64_or_nat q (2 ^ j) (by omega) (two_pow_lt (by omega))
        rw [← cast_two_pow] at e2
        go_wp2_with fail
        refine (spec_l01One j _ (by omega) (by omega)).mono ?_
        rintro e w2 ⟨rfl, rfl⟩
        rw [Int.toNat_natCast]
        go_wp2
        go_round
        case rel => exact ⟨j + 1, by omega, by go_num, by rw [HS.out]; simp⟩
        case measure => simp [intOf]; omega
    · have HE2 : Hid (sqTo m ms j = R) := Lib.hid (by rw [← HE.out]; congr 1; omega)
      go_wp2
      go_ret
      exact ⟨by rw [HE2.out]; rfl, rfl⟩
theorem spec_l01Index (v : Value) (xs : List Int) (x : Int) (k : Nat) (w : World) (h : Sl cI w v xs) (hl : xs.length ≤ 1048576) (hk : k < xs.length) (h1 : xs[k]? = some x) (h2 : ∀ j, j < k → ¬ xs[j]? = some x) :
    Calls Try.prog 84 #[v, .int .i64 x] w fun e w' => e = .returned (.int .i64 (k : Nat)) ∧ w = w' := by
  obtain ⟨A, c, rfl⟩ := h.opn
  have H1 := Lib.hid h1
  have H2 := Lib.hid h2
  clear h1 h2
  go_enter Try.func84, Try.ntmps84
  go_wp2
  go_loop [5] (fun i => ∃ j : Nat, j ≤ k ∧ i = .int .i64 j) (fun i => xs.length - (intOf i).toNat)
  case atStart => exact ⟨0, Nat.zero_le _, rfl⟩
  case round =>
    obtain ⟨j, hj, rfl⟩ := hrel
    have hlt : j < xs.length := by omega
    obtain ⟨b, o, rfl, hbl, hc0⟩ := h.atI hlt
    by_cases he : xs[j] = x
    · have hjk : j = k := by
        rcases Nat.lt_or_ge j k with h' | h'
        · exact absurd (by rw [List.getElem?_eq_getElem hlt, he]) (H2.out j h')
        · omega
      subst hjk
      rw [he] at hc0
      go_wp2
      go_ret
      exact ⟨rfl, rfl⟩
    · have hjk : j < k := by
        rcases Nat.lt_or_ge j k with h' | h'
        · exact h'
        · obtain rfl : j = k := by omega
          have := H1.out
          rw [List.getElem?_eq_getElem hlt] at this
          exact absurd (Option.some.inj this) he
      have hne : (xs[j] == x) = false := by rw [beq_eq_false_iff_ne]; exact he
      generalize xs[j] = y at *
      clear he
      go_wp2
      go_round
      case rel => exact ⟨j + 1, by omega, by go_num⟩
      case measure => simp [intOf]; omega
theorem spec_l05World (n x : Int) (va : Value) (A : Option Addr) (m c : Nat) (hv : va = .slice A m c) (w : World) (hn : 0 ≤ n ∧ n ≤ 8) :
    Calls Try.prog 79 #[.agg #[.int .i64 n, va], .int .i64 x] w fun e w' => e = .returned (.bool (inR x 0 (n - 1))) ∧ Below w.heap.size w w' := by
  subst hv
  have hb0 := below_alloc' w (.cells #[.int .i64 n, .slice A m c] 60)
  have hk0 := Blk.new w 60 #[.int .i64 n, .slice A m c]
  have HB := Lib.hid hb0
  have HK0 := Lib.hid hk0
  have hw1 : IntKind.i64.wrap (n - 1) = n - 1 := IntWalk.i64_in _ ⟨by omega, by omega⟩
  have hw2 : wrap64 (n - 1) = n - 1 := IntWalk.wrap64_in _ ⟨by omega, by omega⟩
  clear hb0 hk0
  go_enter Try.func79, Try.ntmps79
  go_upto_region 1 with fail
  generalize World.alloc w _ = W at *
  have k0 : W.cell? ⟨w.heap.size, 0, none⟩ = some (.int .i64 n) := HK0.out.cell 0
  have l0 := HK0.out.lt
  go_wp2_with fail
  refine (spec_l01In _ _ _ _).mono ?_
  rintro e w1 ⟨rfl, rfl⟩
  go_wp2
  go_ret
  exact ⟨rfl, HB.out⟩
theorem spec_l05Set_in (n on F : Nat) (va : Value) (A : Option Addr) (m c : Nat) (hv : va = .slice A m c) (w : World) (hn : n ≤ 8) (hF : F = 2 ^ n - 1) (ho : on < 2 ^ n) :
    Calls Try.prog 158 #[.agg #[.int .i64 n, va], .int .i64 on] w fun e w' => e = .returned (.bool true) ∧ Below w.heap.size w w' := by
  subst hv
  have hb0 := below_alloc' w (.cells #[.int .i64 n, .slice A m c] 60)
  have hk0 := Blk.new w 60 #[.int .i64 n, .slice A m c]
  have HB := Lib.hid hb0
  have HK0 := Lib.hid hk0
  have EI : Hid (inR (on : Int) 0 (F : Nat) = true) := Lib.hid (inR_true (by omega) (by omega))
  have HF := Lib.hid hF
  clear hb0 hk0 ho hF
  go_enter Try.func158, Try.ntmps158
  go_upto_region 1 with fail
  generalize World.alloc w _ = W at *
  have k0 : W.cell? ⟨w.heap.size, 0, none⟩ = some (.int .i64 n) := HK0.out.cell 0
  have l0 := HK0.out.lt
  go_wp2_with fail
  refine (spec_l01Full' n F HF.out _ (by omega)).mono ?_
  rintro e w1 ⟨rfl, rfl⟩
  go_wp2_with fail
  refine (spec_l01In _ _ _ _).mono ?_
  rintro e w1 ⟨rfl, rfl⟩
  rw [EI.out]
  go_wp2
  go_ret
  exact ⟨rfl, HB.out⟩
theorem spec_l05Reach (v : Value) (ns : List Nat) (x : Nat) (w : World) (h : Sl cI w v (li ns)) (hr : RelN ns) (hx : x < ns.length) :
    Calls Try.prog 80 #[.agg #[.int .i64 ns.length, v], .int .i64 (2 ^ x : Nat)] w fun e w' => e = .returned (.int .i64 (rch ns x : Nat)) ∧ Below w.heap.size w w' := by
  have EL := Lib.hid (li_length ns)
  have h8 := hr.1
  obtain ⟨A, c, rfl⟩ := h.opn
  rw [EL.out] at h ⊢
  have hb0 := below_alloc' w (.cells #[.int .i64 ns.length, .slice A ns.length c] 60)
  have hk0 := Blk.new w 60 #[.int .i64 ns.length, .slice A ns.length c]
  have hb1 := hb0
  have HB := Lib.hid hb0
  have HI := Lib.hid (fun W m (hW : Below w.heap.size w W) (hm : m < 256) => spec_l01Image _ ns m W (h.below hW) hr hm)
  have HIL := Lib.hid (fun m => show img ns m < 2 ^ ns.length from imgTo_lt hr.2 m _)
  have HR := Lib.hid (rch_round ns hr.2 hx)
  have HD := Lib.hid (rch_done ns hr.2 hx)
  have HG := Lib.hid (fun (m : Nat) (hz : ¬ andnot (img ns m) m = 0) (hm : m < 2 ^ ns.length) => or_grow hz hm (HIL.out m))
  have H2 : Hid (2 ^ x < 2 ^ ns.length) := Lib.hid (Nat.pow_lt_pow_right (by decide) hx)
  have H3 : Hid (2 ^ ns.length ≤ 256) := Lib.hid (two_pow_256 h8)
  have H0 : Hid (∀ j, (2 ^ x).testBit j = true → (rch ns x).testBit j = true) := Lib.hid (fun j hj => by rw [rch_bit]; rw [Nat.testBit_two_pow] at hj; rw [hj, Bool.or_true])
  have H4 : Hid ((2 ^ x).testBit x = true) := Lib.hid (by rw [Nat.testBit_two_pow]; simp)
  have HK0 := Lib.hid hk0
  clear h hb0 hb1 hk0 hr
  generalize 2 ^ x = m0 at *
  generalize 2 ^ ns.length = F at *
  generalize rch ns x = R at *
  go_enter Try.func80, Try.ntmps80
  go_upto_region 1 with fail
  generalize World.alloc w _ = W at *
  have k1 : W.cell? ⟨w.heap.size, 1, none⟩ = some (.slice A ns.length c) := HK0.out.cell 1
  have l0 := HK0.out.lt
  go_loop [1] (fun t => ∃ m : Nat, t = .int .i64 m ∧ m < F ∧ (∀ j, m.testBit j = true → R.testBit j = true) ∧ m.testBit x = true) (fun t => F - (intOf t).toNat)
  case atStart => exact ⟨m0, rfl, H2.out, H0.out, H4.out⟩
  case round =>
    obtain ⟨m, rfl, hm, hs, hx1⟩ := hrel
    have hm2 : m < 256 := Nat.lt_of_lt_of_le hm H3.out
    have hi2 : img ns m < 256 := Nat.lt_of_lt_of_le (HIL.out m) H3.out
    have HS := Lib.hid (HR.out m hs)
    have HX1 := Lib.hid hx1
    have e1 := i64_andNot_nat (img ns m) m (by omega) (by omega)
    have e2 := i64_or_nat m (img ns m) (by omega) (by omega)
    have HI1 := Lib.hid (HI.out W m HB.out hm2)
    have HDm := Lib.hid (HD.out m hs hx1)
    have HGm := Lib.hid (fun hz => HG.out m hz hm)
    clear hs hx1
    generalize img ns m = i at *
    go_wp2_with fail
    refine HI1.out.mono ?_
    rintro e w1 ⟨rfl, rfl⟩
    by_cases hz : andnot i m = 0
    · have hd : (((andnot i m : Nat) : Int) != 0) = false := by rw [hz]; rfl
      have HE := Lib.hid (HDm.out hz)
      clear hz
      generalize andnot i m = r at *
      go_wp2
      go_ret
      exact ⟨by rw [HE.out]; rfl, HB.out⟩
    · have hd : (((andnot i m : Nat) : Int) != 0) = true := by rw [bne_iff_ne]; omega
      have hg := HGm.out hz
      clear hz
      generalize andnot i m = r at *
      go_wp2_with fail
      refine HI1.out.mono ?_
      rintro e w1 ⟨rfl, rfl⟩
      go_wp2
      go_round
      case rel => exact ⟨m ||| i, by go_num, hg.2, HS.out, by rw [Nat.testBit_or, HX1.out, Bool.true_or]⟩
      case measure => simp [intOf]; omega
end Go.Proofs.Ytcjplcliggciaaa

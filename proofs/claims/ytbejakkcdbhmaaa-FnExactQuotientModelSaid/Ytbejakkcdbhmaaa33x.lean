/- Contracts of CountSolutions, of the program and of the reference. -/
import Derived.Test.Ytbejakkcdbhmaaa33w
namespace Go.Proofs.Ytbejakkcdbhmaaa
open Go.RowKit
set_option linter.unusedVariables false
set_option linter.unusedSimpArgs false
theorem scode_zero {n v : Int} {xs vs : List Int} {zs : List Nd} (h : scode n xs vs zs v = 0) :
    (∃ ns us : List Nat, xs = li ns ∧ vs = li us ∧ n = ns.length ∧ RelN ns ∧ us.length = 6 ∧ ∀ x ∈ us, x < 2 ^ ns.length) ∧ (∃ f : Fm, f.ok = true ∧ zs = enc f ∧ (enc f).length ≤ 40) ∧ ∃ s : Nat, v = s ∧ s ≤ 5 := by
  unfold scode at h
  by_cases hm : mdOk n xs vs = true
  · rw [if_pos hm] at h
    exact ⟨mdOk_iff hm, vcode_zero h⟩
  · rw [if_neg hm] at h; exact absurd h (by decide)
/-- what CountSolutions says -/
def csOut (ns us : List Nat) (f : Fm) (s : Nat) : Nat := csTo ns us f s (2 ^ ns.length)
theorem impl_CountSolutions_bad (n v : Int) (va vu vf : Value) (xs vs : List Int) (zs : List Nd) (w : World) (ha : Sl cI w va xs) (hu : Sl cI w vu vs) (hf : Sl cN w vf zs) (hl : xs.length ≤ 1048576) (hl' : vs.length ≤ 1048576) (hl2 : zs.length ≤ 1048576) (hc : scode n xs vs zs v ≠ 0) :
    Calls Try.prog 26 #[.agg #[.int .i64 n, va], vf, .int .i64 v, vu] w fun e w' => e = .returned (.tuple #[.int .i64 0, .int .i64 (scode n xs vs zs v)]) ∧ Below w.heap.size w w' := by
  obtain ⟨A0, c0, rfl⟩ := ha.opn
  have hb0 := below_alloc' w (.cells #[.int .i64 n, .slice A0 xs.length c0] 37)
  have H1 := Lib.hid (impl_solveCode n v _ _ _ xs vs zs _ (ha.below hb0) (hu.below hb0) (hf.below hb0) hl hl' hl2)
  have HB := Lib.hid hb0
  have hc' : (scode n xs vs zs v != 0) = true := by simpa using hc
  generalize scode n xs vs zs v = k at *
  clear ha hu hf hb0 hc
  go_enter Try.func26, Try.ntmps26
  go_wp2_with fail
  refine H1.out.mono ?_
  rintro e w1 ⟨rfl, hb⟩
  have HB1 := Lib.hid (HB.out.trans (hb.mono HB.out.size))
  clear hb
  go_wp2
  go_ret2
  exact ⟨rfl, HB1.out⟩
theorem impl_CountSolutions_ok (ns us : List Nat) (f : Fm) (s : Nat) (va vu v : Value) (w : World) (ha : Sl cI w va (li ns)) (hu : Sl cI w vu (li us)) (h : Sl cN w v (enc f)) (hr : RelN ns) (hu6 : us.length = 6) (hus : ∀ x ∈ us, x < 2 ^ ns.length) (hok : f.ok = true) (hl : (enc f).length ≤ 40) (hs : s ≤ 5) (hc : scode ns.length (li ns) (li us) (enc f) s = 0) :
    Calls Try.prog 26 #[.agg #[.int .i64 (ns.length : Int), va], v, .int .i64 s, vu] w fun e w' => e = .returned (.tuple #[.int .i64 (csOut ns us f s : Nat), .int .i64 0]) ∧ Below w.heap.size w w' := by
  obtain ⟨A0, c0, rfl⟩ := ha.opn
  have en : (li ns).length = ns.length := li_length ns
  rw [en] at ha ⊢
  have h8 := hr.1
  have hb0 := below_alloc' w (.cells #[.int .i64 (ns.length : Int), .slice A0 ns.length c0] 37)
  have hk0 := Blk.new w 37 #[.int .i64 (ns.length : Int), .slice A0 ns.length c0]
  have hkl := hk0.lt
  have HK := Lib.hid hk0
  have H1 := Lib.hid (hc ▸ impl_solveCode ns.length s _ _ _ (li ns) (li us) (enc f) _ (ha.below hb0) (hu.below hb0) (h.below hb0) (by rw [li_length]; omega) (by rw [li_length]; omega) (by omega))
  have HS := Lib.hid (fun (W : World) (hb : Below w.heap.size w W) (m : Nat) (hm : m < 2 ^ ns.length) => impl_solvedWith ns us f s m _ _ _ W (ha.below hb) (hu.below hb) (h.below hb) hr hu6 hus hok hl hs hm)
  obtain ⟨F, hF⟩ : ∃ F : Nat, F = 2 ^ ns.length - 1 := ⟨_, rfl⟩
  have hF1 : F + 1 = 2 ^ ns.length := by have := Nat.pow_pos (n := ns.length) (show 0 < 2 by decide); omega
  have hF256 : F < 256 := by have := two_pow_256 h8; omega
  have HA := Lib.hid (fun W => hF ▸ impl_all ns.length (.slice A0 ns.length c0) A0 ns.length c0 rfl W h8)
  have HB := Lib.hid hb0
  have HF1 := Lib.hid hF1
  clear ha hu h hb0 hk0 en hr hok hc hus hF hF1
  go_enter Try.func26, Try.ntmps26
  go_wp2_with fail
  refine H1.out.mono ?_
  rintro e w1 ⟨rfl, hb⟩
  have HB1 := Lib.hid (HB.out.trans (hb.mono HB.out.size))
  have HK1 := Lib.hid (HK.out.below hb hkl)
  have k1 := HK1.out.cell
  have k2 := HK1.out.lt
  clear hb
  go_wp2_with fail
  refine (HA.out _).mono ?_
  rintro e w2 ⟨rfl, hb⟩
  have HB2 := Lib.hid (bthen HB1.out hb)
  have HK2 := Lib.hid (HK1.out.below hb k2)
  clear hb k1 k2
  go_wp2
  go_loopw [11, 24] (fun t i wr => ∃ j : Nat, j ≤ F + 1 ∧ i = .int .i64 j ∧ t = .int .i64 (csTo ns us f s j : Nat) ∧ Blk wr w.heap.size 37 #[.int .i64 (ns.length : Int), .slice A0 ns.length c0] ∧ Below w.heap.size w wr) (fun _ i _ => F + 1 - (intOf i).toNat)
  case atStart => exact ⟨0, Nat.zero_le _, rfl, rfl, HK2.out, HB2.out⟩
  case round =>
    obtain ⟨j, hj, rfl, rfl, hk, hb⟩ := hrel
    have hcl := csTo_le ns us f s j
    have HKr := Lib.hid hk
    have HBr := Lib.hid hb
    have k1 := hk.cell
    have k2 := hk.lt
    clear hk hb HK2 HB2 HK1 HB1
    by_cases hlt : j < F + 1
    · have HE := Lib.hid (csTo_succ ns us f s j)
      generalize csTo ns us f s j = q at *
      go_wp2_with fail
      refine (HS.out _ HBr.out j (by have := HF1.out; omega)).mono ?_
      rintro e w3 ⟨rfl, hb⟩
      have HB3 := Lib.hid (bthen HBr.out hb)
      have HK3 := Lib.hid (HKr.out.below hb k2)
      clear hb k1 k2
      generalize slv ns us f s j = x at *
      by_cases hx : x = j
      · have hd : ((x : Int) == (j : Int)) = true := by rw [hx]; simp
        rw [if_pos hx] at HE
        clear hx
        go_wp2_with fail
        refine (impl_one _ _).mono ?_
        rintro e w4 ⟨rfl, rfl⟩
        simp only [if_true]
        go_wp2
        go_roundw
        case rel => exact ⟨j + 1, by omega, by go_num, by rw [HE.out]; first | go_num | rfl, HK3.out, HB3.out⟩
        case measure => simp [intOf]; omega
      · have hd : ((x : Int) == (j : Int)) = false := by rw [beq_eq_false_iff_ne]; omega
        rw [if_neg hx] at HE
        replace HE : Hid (csTo ns us f s (j + 1) = q) := Lib.hid HE.out
        clear hx
        go_wp2_with fail
        refine (impl_one _ _).mono ?_
        rintro e w4 ⟨rfl, rfl⟩
        simp only [Bool.false_eq_true, if_false]
        go_wp2
        go_roundw
        case rel => exact ⟨j + 1, by omega, by go_num, by rw [HE.out], HK3.out, HB3.out⟩
        case measure => simp [intOf]; omega
    · obtain rfl : j = F + 1 := by omega
      have HE : Hid (csOut ns us f s = csTo ns us f s (F + 1)) := Lib.hid (by unfold csOut; rw [HF1.out])
      go_wp2
      go_ret2
      exact ⟨by rw [HE.out]; rfl, HBr.out⟩
theorem spec_l33Frame (n v : Int) (va vu vf : Value) (xs vs : List Int) (zs : List Nd) (w : World) (ha : Sl cI w va xs) (hu : Sl cI w vu vs) (hf : Sl cN w vf zs) (hl : xs.length ≤ 1048576) (hl' : vs.length ≤ 1048576) (hl2 : zs.length ≤ 1048576) :
    Calls Try.prog 92 #[.agg #[.int .i64 n, va], vf, .int .i64 v, vu] w fun e w' => e = .returned (.int .i64 (scode n xs vs zs v)) ∧ Below w.heap.size w w' := by
  obtain ⟨A0, c0, rfl⟩ := ha.opn
  obtain ⟨A1, c1, rfl⟩ := hu.opn
  have hb0 := below_alloc' w (.cells #[.int .i64 n, .slice A0 xs.length c0] 37)
  have hk0 := Blk.new w 37 #[.int .i64 n, .slice A0 xs.length c0]
  have hkl := hk0.lt
  have HK := Lib.hid hk0
  have H1 := Lib.hid (spec_l05Is n _ xs _ (ha.below hb0) (by omega))
  have H2 := Lib.hid (fun (W : World) (hb : Below w.heap.size w W) => spec_l02Is vf zs W (hf.below hb) (by omega))
  have HU := Lib.hid (fun (W : World) (hb : Below w.heap.size w W) => hu.below hb)
  have HB := Lib.hid hb0
  clear ha hu hf hb0 hk0
  cases h1 : frOk n xs
  · have E : Hid (scode n xs vs zs v = 1) := Lib.hid (by unfold scode mdOk; rw [h1]; rfl)
    rw [h1] at H1
    clear h1
    go_enter Try.func92, Try.ntmps92
    go_wp2_with fail
    refine H1.out.mono ?_
    rintro e w1 ⟨rfl, hb⟩
    have HB1 := Lib.hid (HB.out.trans (hb.mono HB.out.size))
    clear hb
    go_wp2
    go_ret
    exact ⟨by rw [E.out]; rfl, HB1.out⟩
  · have hr : 0 ≤ n ∧ n ≤ 8 := by
      have h2 := h1
      unfold frOk at h2
      rw [Bool.and_eq_true] at h2
      exact inR_iff.1 h2.1
    cases h2 : isF zs
    · have E : Hid (scode n xs vs zs v = 1) := Lib.hid (by unfold scode vcode; rw [h2]; split <;> rfl)
      rw [h1] at H1
      rw [h2] at H2
      clear h1 h2
      go_enter Try.func92, Try.ntmps92
      go_wp2_with fail
      refine H1.out.mono ?_
      rintro e w1 ⟨rfl, hb⟩
      have HB1 := Lib.hid (HB.out.trans (hb.mono HB.out.size))
      clear hb
      go_wp2_with fail
      refine (H2.out _ HB1.out).mono ?_
      rintro e w2 ⟨rfl, rfl⟩
      go_wp2
      go_ret
      exact ⟨by rw [E.out]; rfl, HB1.out⟩
    · by_cases h3 : vs.length = 6
      · cases h4 : msks n vs
        · have E : Hid (scode n xs vs zs v = 1) := Lib.hid (by unfold scode mdOk; rw [h1, ← msks_mk hr, h4, decide_eq_true h3]; rfl)
          have H4 := Lib.hid (fun (W : World) (hb : Below w.heap.size w W) => h4 ▸ spec_l01Masks n _ vs W (HU.out W hb) (by omega) hr.1 (by omega))
          have H3 := Lib.hid h3
          rw [h1] at H1
          rw [h2] at H2
          clear h1 h2 h4
          go_enter Try.func92, Try.ntmps92
          rw [H3.out] at H4 ⊢
          clear h3
          go_wp2_with fail
          refine H1.out.mono ?_
          rintro e w1 ⟨rfl, hb⟩
          have HB1 := Lib.hid (HB.out.trans (hb.mono HB.out.size))
          have k1 := (HK.out.below hb hkl).cell
          have k2 := (HK.out.below hb hkl).lt
          clear hb
          go_wp2_with fail
          refine (H2.out _ HB1.out).mono ?_
          rintro e w2 ⟨rfl, rfl⟩
          go_wp2_with fail
          refine (H4.out _ HB1.out).mono ?_
          rintro e w2 ⟨rfl, hb⟩
          have HB2 := Lib.hid (bthen HB1.out hb)
          clear hb k1 k2
          go_wp2
          go_ret
          exact ⟨by rw [E.out]; rfl, HB2.out⟩
        · obtain ⟨k, hk⟩ : ∃ k, scode n xs vs zs v = k := ⟨_, rfl⟩
          have hk0 := hk
          unfold scode mdOk vcode at hk0
          rw [h1, ← msks_mk hr, h4, decide_eq_true h3, h2] at hk0
          simp only [Bool.and_self, if_true] at hk0
          have E := Lib.hid hk; clear hk
          have H4 := Lib.hid (fun (W : World) (hb : Below w.heap.size w W) => h4 ▸ spec_l01Masks n _ vs W (HU.out W hb) (by omega) hr.1 (by omega))
          have H3 := Lib.hid h3
          rw [h1] at H1
          rw [h2] at H2
          clear h1 h2 h4
          cases h5 : inR v 0 5
          all_goals
            rw [h5] at hk0
            first | rw [if_pos rfl] at hk0 | rw [if_neg (by decide)] at hk0
            subst hk0
            have H5 := Lib.hid (fun W => h5 ▸ spec_l01In v 0 5 W)
            clear h5
            go_enter Try.func92, Try.ntmps92
            rw [H3.out] at H4 ⊢
            clear h3
            go_wp2_with fail
            refine H1.out.mono ?_
            rintro e w1 ⟨rfl, hb⟩
            have HB1 := Lib.hid (HB.out.trans (hb.mono HB.out.size))
            have k1 := (HK.out.below hb hkl).cell
            have k2 := (HK.out.below hb hkl).lt
            clear hb
            go_wp2_with fail
            refine (H2.out _ HB1.out).mono ?_
            rintro e w2 ⟨rfl, rfl⟩
            go_wp2_with fail
            refine (H4.out _ HB1.out).mono ?_
            rintro e w2 ⟨rfl, hb⟩
            have HB2 := Lib.hid (bthen HB1.out hb)
            clear hb k1 k2
            go_wp2_with fail
            refine (H5.out _).mono ?_
            rintro e w3 ⟨rfl, rfl⟩
            go_wp2
            go_ret
            exact ⟨by rw [E.out]; rfl, HB2.out⟩
      · have E : Hid (scode n xs vs zs v = 1) := Lib.hid (by unfold scode mdOk; rw [decide_eq_false h3]; simp)
        have d3 : ((vs.length : Int) != 6) = true := by rw [bne_iff_ne]; omega
        rw [h1] at H1
        rw [h2] at H2
        clear h1 h2 h3
        go_enter Try.func92, Try.ntmps92
        go_wp2_with fail
        refine H1.out.mono ?_
        rintro e w1 ⟨rfl, hb⟩
        have HB1 := Lib.hid (HB.out.trans (hb.mono HB.out.size))
        clear hb
        go_wp2_with fail
        refine (H2.out _ HB1.out).mono ?_
        rintro e w2 ⟨rfl, rfl⟩
        go_wp2
        go_ret
        exact ⟨by rw [E.out]; rfl, HB1.out⟩
end Go.Proofs.Ytbejakkcdbhmaaa

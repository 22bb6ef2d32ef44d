/- Joined of several texts: 33w, 33x, 33y, M05e. -/
import Derived.Test.YtebpjcbgnagjeaaGreatFB
import Derived.Test.YtebpjcbgnagjeaaGreat06t
namespace Go.Proofs.YtebpjcbgnagjeaaGreat
open Go.RowKit
set_option linter.unusedVariables false
set_option linter.unusedSimpArgs false
/- Contracts of CountSolutions, of the program and of the reference. -/
/-- the code of a frame, a formula, a variable and values -/
def scode (n : Int) (xs vs : List Int) (zs : List Nd) (v : Int) : Int := if mdOk n xs vs then vcode zs v else 1
/-- the worlds at which a formula is true where a variable is at those of a mask -/
def slv (ns us : List Nat) (f : Fm) (s m : Nat) : Nat := tv ns (us.set s m) f
def csTo (ns us : List Nat) (f : Fm) (s k : Nat) : Nat := (List.range k).countP fun m => slv ns us f s m == m
theorem csTo_succ (ns us : List Nat) (f : Fm) (s k : Nat) : csTo ns us f s (k + 1) = csTo ns us f s k + if slv ns us f s k = k then 1 else 0 := by
  unfold csTo
  rw [List.range_succ, List.countP_append, List.countP_singleton]
  by_cases h : slv ns us f s k = k <;> simp [h]
theorem csTo_le (ns us : List Nat) (f : Fm) (s k : Nat) : csTo ns us f s k ≤ k := by
  have := List.countP_le_length (p := fun m => slv ns us f s m == m) (l := List.range k)
  simpa [csTo] using this
theorem li_set (us : List Nat) (s m : Nat) : (li us).set s (m : Int) = li (us.set s m) := by
  unfold li
  rw [List.map_set]
theorem set_lt {us : List Nat} {k : Nat} (h : ∀ x ∈ us, x < 2 ^ k) (s m : Nat) (hm : m < 2 ^ k) : ∀ x ∈ us.set s m, x < 2 ^ k := by
  intro x hx
  rcases List.mem_or_eq_of_mem_set hx with h1 | h1
  · exact h x h1
  · rw [h1]; exact hm
theorem impl_solveCode (n v : Int) (va vu vf : Value) (xs vs : List Int) (zs : List Nd) (w : World) (ha : Sl cI w va xs) (hu : Sl cI w vu vs) (hf : Sl cN w vf zs) (hl : xs.length ≤ 1048576) (hl' : vs.length ≤ 1048576) (hl2 : zs.length ≤ 1048576) :
    Calls Tryz.prog 15 #[.agg #[.int .i64 n, va], vf, .int .i64 v, vu] w fun e w' => e = .returned (.int .i64 (scode n xs vs zs v)) ∧ Below w.heap.size w w' := by
  obtain ⟨A0, c0, rfl⟩ := ha.opn
  obtain ⟨A1, c1, rfl⟩ := hu.opn
  have hb0 := below_alloc' w (.cells #[.int .i64 n, .slice A0 xs.length c0] 26)
  have H1 := Lib.hid (impl_isModel n _ _ xs vs _ (ha.below hb0) (hu.below hb0) (by omega) (by omega))
  have H2 := Lib.hid (fun W (hW : Sl cN W vf zs) => impl_variableCode vf zs v W hW hl2)
  have Hf := Lib.hid (hf.below hb0)
  have HB := Lib.hid hb0
  clear ha hu hf hb0
  cases hm : mdOk n xs vs
  · have E : Hid (scode n xs vs zs v = 1) := Lib.hid (by unfold scode; rw [hm]; rfl)
    rw [hm] at H1
    clear hm
    go_enter Tryz.func15, Tryz.ntmps15
    go_wp2_with fail
    refine H1.out.mono ?_
    rintro e w1 ⟨rfl, hb⟩
    have HB1 := Lib.hid (HB.out.trans (hb.mono HB.out.size))
    clear hb
    go_wp2
    go_ret
    exact ⟨by rw [E.out]; rfl, HB1.out⟩
  · have E : Hid (scode n xs vs zs v = vcode zs v) := Lib.hid (by unfold scode; rw [hm]; rfl)
    rw [hm] at H1
    clear hm
    go_enter Tryz.func15, Tryz.ntmps15
    go_wp2_with fail
    refine H1.out.mono ?_
    rintro e w1 ⟨rfl, hb⟩
    have HB1 := Lib.hid (HB.out.trans (hb.mono HB.out.size))
    have Hf1 := Lib.hid (Hf.out.below hb)
    clear hb
    go_wp2_with fail
    refine (H2.out _ Hf1.out).mono ?_
    rintro e w2 ⟨rfl, hb⟩
    have HB2 := Lib.hid (bthen HB1.out hb)
    clear hb
    go_wp2
    go_ret
    exact ⟨by rw [E.out]; rfl, HB2.out⟩
theorem impl_solvedWith (ns us : List Nat) (f : Fm) (s m : Nat) (va vu v : Value) (w : World) (ha : Sl cI w va (li ns)) (hu : Sl cI w vu (li us)) (h : Sl cN w v (enc f)) (hr : RelN ns) (hu6 : us.length = 6) (hus : ∀ x ∈ us, x < 2 ^ ns.length) (hok : f.ok = true) (hl : (enc f).length ≤ 40) (hs : s ≤ 5) (hm : m < 2 ^ ns.length) :
    Calls Tryz.prog 18 #[.agg #[.int .i64 (ns.length : Int), va], v, .int .i64 s, vu, .int .i64 m] w fun e w' => e = .returned (.int .i64 (slv ns us f s m : Nat)) ∧ Below w.heap.size w w' := by
  obtain ⟨A0, c0, rfl⟩ := ha.opn
  have en : (li ns).length = ns.length := li_length ns
  rw [en] at ha ⊢
  have hb0 := below_alloc' w (.cells #[.int .i64 (ns.length : Int), .slice A0 ns.length c0] 26)
  have Ha := Lib.hid (ha.below hb0)
  have Hu := Lib.hid (hu.below hb0)
  have Hh := Lib.hid (h.below hb0)
  have HB := Lib.hid hb0
  have hk0 := Blk.new w 26 #[.int .i64 (ns.length : Int), .slice A0 ns.length c0]
  have HK := Lib.hid hk0
  have hkl := hk0.lt
  have e6 : (li us).length = 6 := by rw [li_length, hu6]
  have E6 := Lib.hid e6
  have HT := Lib.hid (fun (W : World) (vu' : Value) (ha : Sl cI W (.slice A0 ns.length c0) (li ns)) (hu' : Sl cI W vu' (li (us.set s m))) (hf : Sl cN W v (enc f)) => impl_truthSet ns (us.set s m) f _ vu' v W ha hu' hf hr (by simpa using hu6) (set_lt hus s m hm) hok (by omega))
  have HS := Lib.hid (li_set us s m)
  clear ha hu h hb0 hk0 e6 en hr hus hok
  go_enter Tryz.func18, Tryz.ntmps18
  go_wp2_with fail
  refine (slices_Clone_int64 _ _ _ Hu.out (by rw [E6.out]; omega)).mono ?_
  rintro e w1 ⟨u, rfl, ho, hb⟩
  obtain ⟨g, c, rfl, hg, hg2, -, -⟩ := ho.form (by rw [E6.out]; omega)
  rw [E6.out] at ho ⊢
  obtain ⟨hc1, hf1, -, -⟩ := ho.at1 rfl (j := s) (by rw [E6.out]; omega) rfl
  obtain ⟨old, hc1⟩ : ∃ old, w1.cell? ⟨g, s, none⟩ = some old := ⟨_, hc1⟩
  have hset := ho.set1 (j := s) (x := (m : Int)) (u := .int .i64 m) rfl rfl (by rw [E6.out]; omega)
  rw [HS.out] at hset
  have hBs : Below (w.alloc (.cells #[.int .i64 (ns.length : Int), .slice A0 ns.length c0] 26)).heap.size (w.alloc (.cells #[.int .i64 (ns.length : Int), .slice A0 ns.length c0] 26)) (w1.setCell ⟨g, s, none⟩ (.int .i64 m)) := hb.setCell hg _
  have k1 := (HK.out.below hBs hkl).cell
  have k2 := (HK.out.below hBs hkl).lt
  have HBs := Lib.hid hBs
  have HSet := Lib.hid hset
  have Ha1 := Lib.hid (Ha.out.below hBs)
  have Hh1 := Lib.hid (Hh.out.below hBs)
  have hne : ¬ g = w.heap.size := by simp at hg; omega
  have k0 := (HK.out.below hb hkl).cell
  clear ho hb hset hBs
  go_wp2_with fail
  refine (HT.out _ _ Ha1.out HSet.out.sl Hh1.out).mono ?_
  rintro e w2 ⟨rfl, hb⟩
  have HB2 := Lib.hid (HB.out.trans ((bthen HBs.out hb).mono HB.out.size))
  clear hb k0 k1
  go_wp2
  go_ret
  exact ⟨rfl, HB2.out⟩
/- Contracts of CountSolutions, of the program and of the reference. -/
theorem scode_zero {n v : Int} {xs vs : List Int} {zs : List Nd} (h : scode n xs vs zs v = 0) :
    (∃ ns us : List Nat, xs = li ns ∧ vs = li us ∧ n = ns.length ∧ RelN ns ∧ us.length = 6 ∧ ∀ x ∈ us, x < 2 ^ ns.length) ∧ (∃ f : Fm, f.ok = true ∧ zs = enc f ∧ (enc f).length ≤ 40) ∧ ∃ s : Nat, v = s ∧ s ≤ 5 := by
  unfold scode at h
  by_cases hm : mdOk n xs vs = true
  · rw [if_pos hm] at h
    exact ⟨mdOk_iff hm, vcode_zero h⟩
  · rw [if_neg hm] at h; exact absurd h (by decide)
/-- what CountSolutions says -/
def csOut (ns us : List Nat) (f : Fm) (s : Nat) : Nat := csTo ns us f s (2 ^ ns.length)
theorem impl_CountSolutions_bad (n v : Int) (va vu vf : Value) (xs vs : List Int) (zs : List Nd) (w : World) (ha : Sl cI w va xs) (hu : Sl cI w vu vs) (hf : Sl cN w vf zs) (hl : xs.length ≤ 1048576) (hl' : vs.length ≤ 1048576) (hl2 : zs.length ≤ 1048576) (hc : scode n xs vs zs v ≠ 0) :
    Calls Tryz.prog 8 #[.agg #[.int .i64 n, va], vf, .int .i64 v, vu] w fun e w' => e = .returned (.tuple #[.int .i64 0, .int .i64 (scode n xs vs zs v)]) ∧ Below w.heap.size w w' := by
  obtain ⟨A0, c0, rfl⟩ := ha.opn
  have hb0 := below_alloc' w (.cells #[.int .i64 n, .slice A0 xs.length c0] 26)
  have H1 := Lib.hid (impl_solveCode n v _ _ _ xs vs zs _ (ha.below hb0) (hu.below hb0) (hf.below hb0) hl hl' hl2)
  have HB := Lib.hid hb0
  have hc' : (scode n xs vs zs v != 0) = true := by simpa using hc
  generalize scode n xs vs zs v = k at *
  clear ha hu hf hb0 hc
  go_enter Tryz.func8, Tryz.ntmps8
  go_wp2_with fail
  refine H1.out.mono ?_
  rintro e w1 ⟨rfl, hb⟩
  have HB1 := Lib.hid (HB.out.trans (hb.mono HB.out.size))
  clear hb
  go_wp2
  go_ret2
  exact ⟨rfl, HB1.out⟩
theorem impl_CountSolutions_ok (ns us : List Nat) (f : Fm) (s : Nat) (va vu v : Value) (w : World) (ha : Sl cI w va (li ns)) (hu : Sl cI w vu (li us)) (h : Sl cN w v (enc f)) (hr : RelN ns) (hu6 : us.length = 6) (hus : ∀ x ∈ us, x < 2 ^ ns.length) (hok : f.ok = true) (hl : (enc f).length ≤ 40) (hs : s ≤ 5) (hc : scode ns.length (li ns) (li us) (enc f) s = 0) :
    Calls Tryz.prog 8 #[.agg #[.int .i64 (ns.length : Int), va], v, .int .i64 s, vu] w fun e w' => e = .returned (.tuple #[.int .i64 (csOut ns us f s : Nat), .int .i64 0]) ∧ Below w.heap.size w w' := by
  obtain ⟨A0, c0, rfl⟩ := ha.opn
  have en : (li ns).length = ns.length := li_length ns
  rw [en] at ha ⊢
  have h8 := hr.1
  have hb0 := below_alloc' w (.cells #[.int .i64 (ns.length : Int), .slice A0 ns.length c0] 26)
  have hk0 := Blk.new w 26 #[.int .i64 (ns.length : Int), .slice A0 ns.length c0]
  have hkl := hk0.lt
  have HK := Lib.hid hk0
  have H1 := Lib.hid (hc ▸ impl_solveCode ns.length s _ _ _ (li ns) (li us) (enc f) _ (ha.below hb0) (hu.below hb0) (h.below hb0) (by rw [li_length]; omega) (by rw [li_length]; omega) (by omega))
  have HS := Lib.hid (fun (W : World) (hb : Below w.heap.size w W) (m : Nat) (hm : m < 2 ^ ns.length) => impl_solvedWith ns us f s m _ _ _ W (ha.below hb) (hu.below hb) (h.below hb) hr hu6 hus hok hl hs hm)
  obtain ⟨F, hF⟩ : ∃ F : Nat, F = 2 ^ ns.length - 1 := ⟨_, rfl⟩
  have hF1 : F + 1 = 2 ^ ns.length := by have := Nat.pow_pos (n := ns.length) (show 0 < 2 by decide); omega
  have hF256 : F < 256 := by have := two_pow_256 h8; omega
  have HA := Lib.hid (fun W => hF ▸ impl_all ns.length (.slice A0 ns.length c0) A0 ns.length c0 rfl W h8)
  have HB := Lib.hid hb0
  have HF1 := Lib.hid hF1
  clear ha hu h hb0 hk0 en hr hok hc hus hF hF1
  go_enter Tryz.func8, Tryz.ntmps8
  go_wp2_with fail
  refine H1.out.mono ?_
  rintro e w1 ⟨rfl, hb⟩
  have HB1 := Lib.hid (HB.out.trans (hb.mono HB.out.size))
  have HK1 := Lib.hid (HK.out.below hb hkl)
  have k1 := HK1.out.cell
  have k2 := HK1.out.lt
  clear hb
  go_wp2_with fail
  refine (HA.out _).mono ?_
  rintro e w2 ⟨rfl, hb⟩
  have HB2 := Lib.hid (bthen HB1.out hb)
  have HK2 := Lib.hid (HK1.out.below hb k2)
  clear hb k1 k2
  go_wp2
  go_loopw [11, 24] (fun t i wr => ∃ j : Nat, j ≤ F + 1 ∧ i = .int .i64 j ∧ t = .int .i64 (csTo ns us f s j : Nat) ∧ Blk wr w.heap.size 26 #[.int .i64 (ns.length : Int), .slice A0 ns.length c0] ∧ Below w.heap.size w wr) (fun _ i _ => F + 1 - (intOf i).toNat)
  case atStart => exact ⟨0, Nat.zero_le _, rfl, rfl, HK2.out, HB2.out⟩
  case round =>
    obtain ⟨j, hj, rfl, rfl, hk, hb⟩ := hrel
    have hcl := csTo_le ns us f s j
    have HKr := Lib.hid hk
    have HBr := Lib.hid hb
    have k1 := hk.cell
    have k2 := hk.lt
    clear hk hb HK2 HB2 HK1 HB1
    by_cases hlt : j < F + 1
    · have HE := Lib.hid (csTo_succ ns us f s j)
      generalize csTo ns us f s j = q at *
      go_wp2_with fail
      refine (HS.out _ HBr.out j (by have := HF1.out; omega)).mono ?_
      rintro e w3 ⟨rfl, hb⟩
      have HB3 := Lib.hid (bthen HBr.out hb)
      have HK3 := Lib.hid (HKr.out.below hb k2)
      clear hb k1 k2
      generalize slv ns us f s j = x at *
      by_cases hx : x = j
      · have hd : ((x : Int) == (j : Int)) = true := by rw [hx]; simp
        rw [if_pos hx] at HE
        clear hx
        go_wp2_with fail
        refine (impl_one _ _).mono ?_
        rintro e w4 ⟨rfl, rfl⟩
        simp only [if_true]
        go_wp2
        go_roundw
        case rel => exact ⟨j + 1, by omega, by go_num, by rw [HE.out]; first | go_num | rfl, HK3.out, HB3.out⟩
        case measure => simp [intOf]; omega
      · have hd : ((x : Int) == (j : Int)) = false := by rw [beq_eq_false_iff_ne]; omega
        rw [if_neg hx] at HE
        replace HE : Hid (csTo ns us f s (j + 1) = q) := Lib.hid HE.out
        clear hx
        go_wp2_with fail
        refine (impl_one _ _).mono ?_
        rintro e w4 ⟨rfl, rfl⟩
        simp only [Bool.false_eq_true, if_false]
        go_wp2
        go_roundw
        case rel => exact ⟨j + 1, by omega, by go_num, by rw [HE.out], HK3.out, HB3.out⟩
        case measure => simp [intOf]; omega
    · obtain rfl : j = F + 1 := by omega
      have HE : Hid (csOut ns us f s = csTo ns us f s (F + 1)) := Lib.hid (by unfold csOut; rw [HF1.out])
      go_wp2
      go_ret2
      exact ⟨by rw [HE.out]; rfl, HBr.out⟩
theorem spec_l33Frame (n v : Int) (va vu vf : Value) (xs vs : List Int) (zs : List Nd) (w : World) (ha : Sl cI w va xs) (hu : Sl cI w vu vs) (hf : Sl cN w vf zs) (hl : xs.length ≤ 1048576) (hl' : vs.length ≤ 1048576) (hl2 : zs.length ≤ 1048576) :
    Calls Tryz.prog 19 #[.agg #[.int .i64 n, va], vf, .int .i64 v, vu] w fun e w' => e = .returned (.int .i64 (scode n xs vs zs v)) ∧ Below w.heap.size w w' := by
  obtain ⟨A0, c0, rfl⟩ := ha.opn
  obtain ⟨A1, c1, rfl⟩ := hu.opn
  have hb0 := below_alloc' w (.cells #[.int .i64 n, .slice A0 xs.length c0] 26)
  have hk0 := Blk.new w 26 #[.int .i64 n, .slice A0 xs.length c0]
  have hkl := hk0.lt
  have HK := Lib.hid hk0
  have H1 := Lib.hid (spec_l05Is n _ xs _ (ha.below hb0) (by omega))
  have H2 := Lib.hid (fun (W : World) (hb : Below w.heap.size w W) => spec_l02Is vf zs W (hf.below hb) (by omega))
  have HU := Lib.hid (fun (W : World) (hb : Below w.heap.size w W) => hu.below hb)
  have HB := Lib.hid hb0
  clear ha hu hf hb0 hk0
  cases h1 : frOk n xs
  · have E : Hid (scode n xs vs zs v = 1) := Lib.hid (by unfold scode mdOk; rw [h1]; rfl)
    rw [h1] at H1
    clear h1
    go_enter Tryz.func19, Tryz.ntmps19
    go_wp2_with fail
    refine H1.out.mono ?_
    rintro e w1 ⟨rfl, hb⟩
    have HB1 := Lib.hid (HB.out.trans (hb.mono HB.out.size))
    clear hb
    go_wp2
    go_ret
    exact ⟨by rw [E.out]; rfl, HB1.out⟩
  · have hr : 0 ≤ n ∧ n ≤ 8 := by
      have h2 := h1
      unfold frOk at h2
      rw [Bool.and_eq_true] at h2
      exact inR_iff.1 h2.1
    cases h2 : isF zs
    · have E : Hid (scode n xs vs zs v = 1) := Lib.hid (by unfold scode vcode; rw [h2]; split <;> rfl)
      rw [h1] at H1
      rw [h2] at H2
      clear h1 h2
      go_enter Tryz.func19, Tryz.ntmps19
      go_wp2_with fail
      refine H1.out.mono ?_
      rintro e w1 ⟨rfl, hb⟩
      have HB1 := Lib.hid (HB.out.trans (hb.mono HB.out.size))
      clear hb
      go_wp2_with fail
      refine (H2.out _ HB1.out).mono ?_
      rintro e w2 ⟨rfl, rfl⟩
      go_wp2
      go_ret
      exact ⟨by rw [E.out]; rfl, HB1.out⟩
    · by_cases h3 : vs.length = 6
      · cases h4 : msks n vs
        · have E : Hid (scode n xs vs zs v = 1) := Lib.hid (by unfold scode mdOk; rw [h1, ← msks_mk hr, h4, decide_eq_true h3]; rfl)
          have H4 := Lib.hid (fun (W : World) (hb : Below w.heap.size w W) => h4 ▸ spec_l01Masks n _ vs W (HU.out W hb) (by omega) hr.1 (by omega))
          have H3 := Lib.hid h3
          rw [h1] at H1
          rw [h2] at H2
          clear h1 h2 h4
          go_enter Tryz.func19, Tryz.ntmps19
          rw [H3.out] at H4 ⊢
          clear h3
          go_wp2_with fail
          refine H1.out.mono ?_
          rintro e w1 ⟨rfl, hb⟩
          have HB1 := Lib.hid (HB.out.trans (hb.mono HB.out.size))
          have k1 := (HK.out.below hb hkl).cell
          have k2 := (HK.out.below hb hkl).lt
          clear hb
          go_wp2_with fail
          refine (H2.out _ HB1.out).mono ?_
          rintro e w2 ⟨rfl, rfl⟩
          go_wp2_with fail
          refine (H4.out _ HB1.out).mono ?_
          rintro e w2 ⟨rfl, hb⟩
          have HB2 := Lib.hid (bthen HB1.out hb)
          clear hb k1 k2
          go_wp2
          go_ret
          exact ⟨by rw [E.out]; rfl, HB2.out⟩
        · obtain ⟨k, hk⟩ : ∃ k, scode n xs vs zs v = k := ⟨_, rfl⟩
          have hk0 := hk
          unfold scode mdOk vcode at hk0
          rw [h1, ← msks_mk hr, h4, decide_eq_true h3, h2] at hk0
          simp only [Bool.and_self, if_true] at hk0
          have E := Lib.hid hk; clear hk
          have H4 := Lib.hid (fun (W : World) (hb : Below w.heap.size w W) => h4 ▸ spec_l01Masks n _ vs W (HU.out W hb) (by omega) hr.1 (by omega))
          have H3 := Lib.hid h3
          rw [h1] at H1
          rw [h2] at H2
          clear h1 h2 h4
          cases h5 : inR v 0 5
          all_goals
            rw [h5] at hk0
            first | rw [if_pos rfl] at hk0 | rw [if_neg (by decide)] at hk0
            subst hk0
            have H5 := Lib.hid (fun W => h5 ▸ spec_l01In v 0 5 W)
            clear h5
            go_enter Tryz.func19, Tryz.ntmps19
            rw [H3.out] at H4 ⊢
            clear h3
            go_wp2_with fail
            refine H1.out.mono ?_
            rintro e w1 ⟨rfl, hb⟩
            have HB1 := Lib.hid (HB.out.trans (hb.mono HB.out.size))
            have k1 := (HK.out.below hb hkl).cell
            have k2 := (HK.out.below hb hkl).lt
            clear hb
            go_wp2_with fail
            refine (H2.out _ HB1.out).mono ?_
            rintro e w2 ⟨rfl, rfl⟩
            go_wp2_with fail
            refine (H4.out _ HB1.out).mono ?_
            rintro e w2 ⟨rfl, hb⟩
            have HB2 := Lib.hid (bthen HB1.out hb)
            clear hb k1 k2
            go_wp2_with fail
            refine (H5.out _).mono ?_
            rintro e w3 ⟨rfl, rfl⟩
            go_wp2
            go_ret
            exact ⟨by rw [E.out]; rfl, HB2.out⟩
      · have E : Hid (scode n xs vs zs v = 1) := Lib.hid (by unfold scode mdOk; rw [decide_eq_false h3]; simp)
        have d3 : ((vs.length : Int) != 6) = true := by rw [bne_iff_ne]; omega
        rw [h1] at H1
        rw [h2] at H2
        clear h1 h2 h3
        go_enter Tryz.func19, Tryz.ntmps19
        go_wp2_with fail
        refine H1.out.mono ?_
        rintro e w1 ⟨rfl, hb⟩
        have HB1 := Lib.hid (HB.out.trans (hb.mono HB.out.size))
        clear hb
        go_wp2_with fail
        refine (H2.out _ HB1.out).mono ?_
        rintro e w2 ⟨rfl, rfl⟩
        go_wp2
        go_ret
        exact ⟨by rw [E.out]; rfl, HB1.out⟩
/- Contracts of CountSolutions, of the reference. -/
theorem spec_l06Make (n : Int) (va vu : Value) (xs vs : List Int) (w : World) (ha : Sl cI w va xs) (hu : Sl cI w vu vs) (hl : xs.length ≤ 1048576) (hl' : vs.length ≤ 1048576) :
    Calls Tryz.prog 78 #[.agg #[.int .i64 n, va], vu] w fun e w' => ∃ r q, e = .returned (.agg #[.int .i64 xs.length, r, q]) ∧ Ow cI 2 w.heap.size w' r xs ∧ Ow cI 2 w.heap.size w' q vs ∧ Below w.heap.size w w' := by
  obtain ⟨A0, c0, rfl⟩ := ha.opn
  have hb0 := (below_alloc' w (.cells #[.int .i64 n, .slice A0 xs.length c0] 26)).trans ((below_alloc' (w.alloc (.cells #[.int .i64 n, .slice A0 xs.length c0] 26)) (.cells #[.int .i64 0, .slice none 0 0, .slice none 0 0] 34)).mono (by simp))
  have hk0 : Blk ((w.alloc (.cells #[.int .i64 n, .slice A0 xs.length c0] 26)).alloc (.cells #[.int .i64 0, .slice none 0 0, .slice none 0 0] 34)) (w.heap.size + 1) 34 #[.int .i64 0, .slice none 0 0, .slice none 0 0] := Blk.new' _ _ _ (by simp)
  have hkl := hk0.lt
  have HK := Lib.hid hk0
  have Ha := Lib.hid (ha.below hb0)
  have Hu := Lib.hid (hu.below hb0)
  have HB := Lib.hid hb0
  clear ha hu hb0 hk0
  go_enter Tryz.func78, Tryz.ntmps78
  go_wp2_with fail
  refine (spec_l05Make _ xs _ Ha.out (by omega)).mono ?_
  rintro e w1 ⟨r, rfl, ho, hb⟩
  have HR := Lib.hid ho
  have Hu1 := Lib.hid (Hu.out.below hb)
  have HK1 := Lib.hid (HK.out.below hb hkl)
  have HB1 := Lib.hid (HB.out.trans (hb.mono HB.out.size))
  clear ho hb
  go_wp2_with fail
  refine (spec_l01Own _ vs _ Hu1.out (by omega)).mono ?_
  rintro e w2 ⟨q, rfl, ho, hb⟩
  have hsz := hb.size
  have hz1 := HB1.out.size
  obtain ⟨A3, c3, rfl⟩ := HR.out.opn
  obtain ⟨A4, c4, rfl⟩ := ho.opn
  have hk2 := HK1.out.below hb HK1.out.lt
  obtain ⟨k1, k2, k3⟩ := And.intro hk2.cell (And.intro hk2.frozen hk2.lt)
  have hkl1 := HK1.out.lt
  have hw2 : w.heap.size + 2 ≤ (((w.alloc (.cells #[.int .i64 n, .slice A0 xs.length c0] 26)).alloc (.cells #[.int .i64 0, .slice none 0 0, .slice none 0 0] 34))).heap.size := by simp
  have HR2 := Lib.hid ((HR.out.below hb).mono hw2)
  have HQ2 : Hid (Ow cI 2 (w.heap.size + 2) w2 (.slice A4 vs.length c4) vs) := Lib.hid (ho.mono (by omega))
  have HB2 := Lib.hid (bthen HB1.out hb)
  clear ho hb hk2 hw2
  go_wp2
  refine bodyPost_ret (v := .agg #[.int .i64 xs.length, .slice A3 xs.length c3, .slice A4 vs.length c4]) (by simp [results, Tryz.results78, go_sem, k1, k2, k3]) rfl ⟨_, _, rfl, ?_, ?_, ?_⟩
  · exact (((HR2.out.setBelow (by show w.heap.size + 1 < w.heap.size + 2; omega) _).setBelow (by show w.heap.size + 1 < w.heap.size + 2; omega) _).setBelow (by show w.heap.size + 1 < w.heap.size + 2; omega) _).mono (by omega)
  · exact (((HQ2.out.setBelow (by show w.heap.size + 1 < w.heap.size + 2; omega) _).setBelow (by show w.heap.size + 1 < w.heap.size + 2; omega) _).setBelow (by show w.heap.size + 1 < w.heap.size + 2; omega) _).mono (by omega)
  · exact ((HB2.out.setCell (by show w.heap.size ≤ w.heap.size + 1; omega) _).setCell (by show w.heap.size ≤ w.heap.size + 1; omega) _).setCell (by show w.heap.size ≤ w.heap.size + 1; omega) _
theorem spec_l33Next (ns us : List Nat) (f : Fm) (s m : Nat) (va vu v : Value) (w : World) (ha : Sl cI w va (li ns)) (hu : Sl cI w vu (li us)) (h : Sl cN w v (enc f)) (hr : RelN ns) (hu6 : us.length = 6) (hus : ∀ x ∈ us, x < 2 ^ ns.length) (hok : f.ok = true) (hl : (enc f).length ≤ 40) (hs : s ≤ 5) (hm : m < 2 ^ ns.length) :
    Calls Tryz.prog 22 #[.agg #[.int .i64 (ns.length : Int), va], v, .int .i64 s, vu, .int .i64 m] w fun e w' => e = .returned (.int .i64 (slv ns us f s m : Nat)) ∧ Below w.heap.size w w' := by
  obtain ⟨A0, c0, rfl⟩ := ha.opn
  have en : (li ns).length = ns.length := li_length ns
  rw [en] at ha ⊢
  have h8 := hr.1
  have hb0 := below_alloc' w (.cells #[.int .i64 (ns.length : Int), .slice A0 ns.length c0] 26)
  have Ha := Lib.hid (ha.below hb0)
  have Hu := Lib.hid (hu.below hb0)
  have Hh := Lib.hid (h.below hb0)
  have HB := Lib.hid hb0
  have hk0 := Blk.new w 26 #[.int .i64 (ns.length : Int), .slice A0 ns.length c0]
  have HK := Lib.hid hk0
  have hkl := hk0.lt
  have e6 : (li us).length = 6 := by rw [li_length, hu6]
  have e6' : (li (us.set s m)).length = 6 := by rw [li_length, List.length_set, hu6]
  have E6 := Lib.hid e6
  have E6' := Lib.hid e6'
  have EN := Lib.hid en
  have HT := Lib.hid (fun (W : World) (A1 A2 : Option Addr) (c1 c2 : Nat) (hm' : Mdl W (.slice A1 ns.length c1) (.slice A2 6 c2) ns (us.set s m)) (hf : Sl cN W v (enc f)) => spec_l06Truth ns (us.set s m) A1 A2 c1 c2 hr (by simpa using hu6) (set_lt hus s m hm) f hok (by omega) v W hf hm')
  have HS := Lib.hid (li_set us s m)
  clear ha hu h hb0 hk0 e6 e6' en hr hus hok
  go_enter Tryz.func22, Tryz.ntmps22
  go_wp2_with fail
  refine (spec_l01Own _ _ _ Hu.out (by rw [E6.out]; omega)).mono ?_
  rintro e w1 ⟨u, rfl, ho, hb⟩
  obtain ⟨g, c, rfl, hg, hg2, -, -⟩ := ho.form (by rw [E6.out]; omega)
  rw [E6.out] at ho ⊢
  obtain ⟨hc1, hf1, -, -⟩ := ho.at1 rfl (j := s) (by rw [E6.out]; omega) rfl
  obtain ⟨old, hc1⟩ : ∃ old, w1.cell? ⟨g, s, none⟩ = some old := ⟨_, hc1⟩
  have hset := ho.set1 (j := s) (x := (m : Int)) (u := .int .i64 m) rfl rfl (by rw [E6.out]; omega)
  rw [HS.out] at hset
  have hBs : Below (w.alloc (.cells #[.int .i64 (ns.length : Int), .slice A0 ns.length c0] 26)).heap.size (w.alloc (.cells #[.int .i64 (ns.length : Int), .slice A0 ns.length c0] 26)) (w1.setCell ⟨g, s, none⟩ (.int .i64 m)) := hb.setCell hg _
  have k1 := (HK.out.below hBs hkl).cell
  have k2 := (HK.out.below hBs hkl).lt
  have HBs := Lib.hid hBs
  have HSet := Lib.hid hset
  have Ha1 := Lib.hid (Ha.out.below hBs)
  have Hh1 := Lib.hid (Hh.out.below hBs)
  have hne : ¬ g = w.heap.size := by simp at hg; omega
  have k0 := (HK.out.below hb hkl).cell
  clear ho hb hset hBs
  go_wp2_with fail
  refine (spec_l06Make _ _ _ (li ns) (li (us.set s m)) _ Ha1.out HSet.out.sl (by rw [EN.out]; omega) (by rw [E6'.out]; omega)).mono ?_
  rintro e w2 ⟨r, q, rfl, hr, hq, hb⟩
  obtain ⟨A1, c1, rfl⟩ := hr.opn
  obtain ⟨A2, c2, rfl⟩ := hq.opn
  have hR := hr.sl
  have hQ := hq.sl
  rw [EN.out] at hR ⊢
  rw [E6'.out] at hQ ⊢
  have HM : Hid (Mdl w2 (.slice A1 ns.length c1) (.slice A2 6 c2) ns (us.set s m)) := Lib.hid ⟨hR, hQ⟩
  have Hh2 := Lib.hid (Hh1.out.below hb)
  have HB2 := Lib.hid (HB.out.trans ((bthen HBs.out hb).mono HB.out.size))
  clear hb hr hq hR hQ k0 k1
  go_wp2_with fail
  refine (HT.out _ A1 A2 c1 c2 HM.out Hh2.out).mono ?_
  rintro e w3 ⟨rfl, hb⟩
  have HB3 := Lib.hid (bthen HB2.out hb)
  clear hb
  go_wp2
  go_ret
  exact ⟨rfl, HB3.out⟩
theorem spec_CountSolutions_bad (n v : Int) (va vu vf : Value) (xs vs : List Int) (zs : List Nd) (w : World) (ha : Sl cI w va xs) (hu : Sl cI w vu vs) (hf : Sl cN w vf zs) (hl : xs.length ≤ 1048576) (hl' : vs.length ≤ 1048576) (hl2 : zs.length ≤ 1048576) (hc : scode n xs vs zs v ≠ 0) :
    Calls Tryz.prog 9 #[.agg #[.int .i64 n, va], vf, .int .i64 v, vu] w fun e w' => e = .returned (.tuple #[.int .i64 0, .int .i64 (scode n xs vs zs v)]) ∧ Below w.heap.size w w' := by
  obtain ⟨A0, c0, rfl⟩ := ha.opn
  have hb0 := below_alloc' w (.cells #[.int .i64 n, .slice A0 xs.length c0] 26)
  have H1 := Lib.hid (spec_l33Frame n v _ _ _ xs vs zs _ (ha.below hb0) (hu.below hb0) (hf.below hb0) hl hl' hl2)
  have HB := Lib.hid hb0
  have hc' : (scode n xs vs zs v != 0) = true := by simpa using hc
  generalize scode n xs vs zs v = k at *
  clear ha hu hf hb0 hc
  go_enter Tryz.func9, Tryz.ntmps9
  go_wp2_with fail
  refine H1.out.mono ?_
  rintro e w1 ⟨rfl, hb⟩
  have HB1 := Lib.hid (HB.out.trans (hb.mono HB.out.size))
  clear hb
  go_wp2
  go_ret2
  exact ⟨rfl, HB1.out⟩
theorem spec_CountSolutions_ok (ns us : List Nat) (f : Fm) (s : Nat) (va vu v : Value) (w : World) (ha : Sl cI w va (li ns)) (hu : Sl cI w vu (li us)) (h : Sl cN w v (enc f)) (hr : RelN ns) (hu6 : us.length = 6) (hus : ∀ x ∈ us, x < 2 ^ ns.length) (hok : f.ok = true) (hl : (enc f).length ≤ 40) (hs : s ≤ 5) (hc : scode ns.length (li ns) (li us) (enc f) s = 0) :
    Calls Tryz.prog 9 #[.agg #[.int .i64 (ns.length : Int), va], v, .int .i64 s, vu] w fun e w' => e = .returned (.tuple #[.int .i64 (csOut ns us f s : Nat), .int .i64 0]) ∧ Below w.heap.size w w' := by
  obtain ⟨A0, c0, rfl⟩ := ha.opn
  have en : (li ns).length = ns.length := li_length ns
  rw [en] at ha ⊢
  have h8 := hr.1
  have hb0 := below_alloc' w (.cells #[.int .i64 (ns.length : Int), .slice A0 ns.length c0] 26)
  have hk0 := Blk.new w 26 #[.int .i64 (ns.length : Int), .slice A0 ns.length c0]
  have hkl := hk0.lt
  have HK := Lib.hid hk0
  have H1 := Lib.hid (hc ▸ spec_l33Frame ns.length s _ _ _ (li ns) (li us) (enc f) _ (ha.below hb0) (hu.below hb0) (h.below hb0) (by rw [li_length]; omega) (by rw [li_length]; omega) (by omega))
  have HS := Lib.hid (fun (W : World) (hb : Below w.heap.size w W) (m : Nat) (hm : m < 2 ^ ns.length) => spec_l33Next ns us f s m _ _ _ W (ha.below hb) (hu.below hb) (h.below hb) hr hu6 hus hok hl hs hm)
  obtain ⟨F, hF⟩ : ∃ F : Nat, F = 2 ^ ns.length - 1 := ⟨_, rfl⟩
  have hF1 : F + 1 = 2 ^ ns.length := by have := Nat.pow_pos (n := ns.length) (show 0 < 2 by decide); omega
  have hF256 : F < 256 := by have := two_pow_256 h8; omega
  have HA := Lib.hid (fun W => spec_l01Full' ns.length F hF W (by omega))
  have HB := Lib.hid hb0
  have HF1 := Lib.hid hF1
  clear ha hu h hb0 hk0 en hr hok hc hus hF hF1
  go_enter Tryz.func9, Tryz.ntmps9
  go_wp2_with fail
  refine H1.out.mono ?_
  rintro e w1 ⟨rfl, hb⟩
  have HB1 := Lib.hid (HB.out.trans (hb.mono HB.out.size))
  have HK1 := Lib.hid (HK.out.below hb hkl)
  clear hb
  go_wp2
  go_loopw [11, 12] (fun t i wr => ∃ j : Nat, j ≤ F + 1 ∧ i = .int .i64 j ∧ t = .int .i64 (csTo ns us f s j : Nat) ∧ Blk wr w.heap.size 26 #[.int .i64 (ns.length : Int), .slice A0 ns.length c0] ∧ Below w.heap.size w wr) (fun _ i _ => F + 1 - (intOf i).toNat)
  case atStart => exact ⟨0, Nat.zero_le _, rfl, rfl, HK1.out, HB1.out⟩
  case round =>
    obtain ⟨j, hj, rfl, rfl, hk, hb⟩ := hrel
    have hcl := csTo_le ns us f s j
    have HKr := Lib.hid hk
    have HBr := Lib.hid hb
    have k1 := hk.cell
    have k2 := hk.lt
    clear hk hb HK1 HB1
    by_cases hlt : j < F + 1
    · have HE := Lib.hid (csTo_succ ns us f s j)
      have hle : (j : Int) ≤ (F : Int) := by omega
      have hd0 : decide ((j : Int) ≤ (F : Int)) = true := decide_eq_true hle
      generalize csTo ns us f s j = q at *
      go_wp2_with fail
      refine (HA.out _).mono ?_
      rintro e w2 ⟨rfl, rfl⟩
      go_wp2_with fail
      refine (HS.out _ HBr.out j (by have := HF1.out; omega)).mono ?_
      rintro e w3 ⟨rfl, hb⟩
      have HB3 := Lib.hid (bthen HBr.out hb)
      have HK3 := Lib.hid (HKr.out.below hb k2)
      clear hb k1 k2
      generalize slv ns us f s j = x at *
      by_cases hx : x = j
      · have hd : ((x : Int) == (j : Int)) = true := by rw [hx]; simp
        rw [if_pos hx] at HE
        clear hx
        go_wp2
        go_roundw
        case rel => exact ⟨j + 1, by omega, by go_num, by rw [HE.out]; first | go_num | rfl, HK3.out, HB3.out⟩
        case measure => simp [intOf]; omega
      · have hd : ((x : Int) == (j : Int)) = false := by rw [beq_eq_false_iff_ne]; omega
        rw [if_neg hx] at HE
        replace HE : Hid (csTo ns us f s (j + 1) = q) := Lib.hid HE.out
        clear hx
        go_wp2
        go_roundw
        case rel => exact ⟨j + 1, by omega, by go_num, by rw [HE.out], HK3.out, HB3.out⟩
        case measure => simp [intOf]; omega
    · obtain rfl : j = F + 1 := by omega
      have hd0 : decide (((F + 1 : Nat) : Int) ≤ (F : Int)) = false := decide_eq_false (by omega)
      have HE : Hid (csOut ns us f s = csTo ns us f s (F + 1)) := Lib.hid (by unfold csOut; rw [HF1.out])
      go_wp2_with fail
      refine (HA.out _).mono ?_
      rintro e w2 ⟨rfl, rfl⟩
      go_wp2
      go_ret2
      exact ⟨by rw [HE.out]; rfl, HBr.out⟩
/- Plain words of chapters 1 and 5: images, the transitive closure, transitive and acyclic frames. No program in sight. -/
/-- what the members of a mask below k see -/
def imgTo (ns : List Nat) (m : Nat) : Nat → Nat
  | 0 => 0
  | i + 1 => imgTo ns m i ||| if m.testBit i then ns.getD i 0 else 0
def img (ns : List Nat) (m : Nat) : Nat := imgTo ns m ns.length
theorem imgTo_bit (ns : List Nat) (m b k : Nat) : (imgTo ns m k).testBit b = true ↔ ∃ i, i < k ∧ m.testBit i = true ∧ (ns.getD i 0).testBit b = true := by
  induction k with
  | zero => simp [imgTo]
  | succ k ih =>
    rw [imgTo, Nat.testBit_or, Bool.or_eq_true, ih]
    constructor
    · rintro (⟨i, hi, h⟩ | h)
      · exact ⟨i, by omega, h⟩
      · by_cases hm : m.testBit k = true
        · rw [if_pos hm] at h; exact ⟨k, by omega, hm, h⟩
        · rw [if_neg hm, Nat.zero_testBit] at h; cases h
    · rintro ⟨i, hi, h1, h2⟩
      by_cases hk : i = k
      · subst hk; rw [if_pos h1]; exact .inr h2
      · exact .inl ⟨i, by omega, h1, h2⟩
theorem imgTo_lt {ns : List Nat} {k : Nat} (h : ∀ x ∈ ns, x < 2 ^ k) (m i : Nat) : imgTo ns m i < 2 ^ k := by
  induction i with
  | zero => exact Nat.pow_pos (by decide)
  | succ i ih =>
    rw [imgTo]
    refine Nat.or_lt_two_pow ih ?_
    split
    · exact getD_lt h i
    · exact Nat.pow_pos (by decide)
theorem andnot_zero (a b : Nat) : andnot a b = 0 ↔ ∀ i, a.testBit i = true → b.testBit i = true := by
  constructor
  · intro h i hi
    have := congrArg (fun n => n.testBit i) h
    simp only [andnot_testBit, Nat.zero_testBit, hi, Bool.true_and] at this
    simpa using this
  · intro h
    apply Nat.eq_of_testBit_eq
    intro i
    rw [andnot_testBit, Nat.zero_testBit]
    cases ha : a.testBit i
    · rfl
    · rw [h i ha]; rfl
/-- one step of the closure -/
def cst (o : List Nat) (k i : Nat) : List Nat := if (o.getD i 0).testBit k then o.set i (o.getD i 0 ||| o.getD k 0) else o
def cin (o : List Nat) (k : Nat) : Nat → List Nat
  | 0 => o
  | i + 1 => cst (cin o k i) k i
def clo (o : List Nat) : Nat → List Nat
  | 0 => o
  | k + 1 => cin (clo o k) k o.length
theorem cst_length (o : List Nat) (k i : Nat) : (cst o k i).length = o.length := by
  unfold cst; split
  · rw [List.length_set]
  · rfl
theorem cin_length (o : List Nat) (k i : Nat) : (cin o k i).length = o.length := by
  induction i with
  | zero => rfl
  | succ i ih => rw [cin, cst_length, ih]
theorem clo_length (o : List Nat) (k : Nat) : (clo o k).length = o.length := by
  induction k with
  | zero => rfl
  | succ k ih => rw [clo, cin_length, ih]
theorem cst_lt {o : List Nat} {n : Nat} (h : ∀ x ∈ o, x < 2 ^ n) (k i : Nat) : ∀ x ∈ cst o k i, x < 2 ^ n := by
  unfold cst; split
  · exact set_lt h _ _ (Nat.or_lt_two_pow (getD_lt h i) (getD_lt h k))
  · exact h
theorem cin_lt {o : List Nat} {n : Nat} (h : ∀ x ∈ o, x < 2 ^ n) (k i : Nat) : ∀ x ∈ cin o k i, x < 2 ^ n := by
  induction i with
  | zero => exact h
  | succ i ih => exact cst_lt ih _ _
theorem clo_lt {o : List Nat} {n : Nat} (h : ∀ x ∈ o, x < 2 ^ n) (k : Nat) : ∀ x ∈ clo o k, x < 2 ^ n := by
  induction k with
  | zero => exact h
  | succ k ih => exact cin_lt ih _ _
theorem getD_set (o : List Nat) (i j v : Nat) : (o.set i v).getD j 0 = if i = j ∧ i < o.length then v else o.getD j 0 := by
  rw [List.getD_eq_getElem?_getD, List.getD_eq_getElem?_getD, List.getElem?_set]
  by_cases h : i = j
  · subst h
    by_cases hi : i < o.length
    · simp [hi]
    · simp [hi]
  · simp [h]
/-- o is part of p -/
def lel (o p : List Nat) : Prop := o.length = p.length ∧ ∀ i b, (o.getD i 0).testBit b = true → (p.getD i 0).testBit b = true
theorem lel.refl (o : List Nat) : lel o o := ⟨rfl, fun _ _ h => h⟩
theorem lel.trans {o p q : List Nat} (h : lel o p) (h' : lel p q) : lel o q := ⟨h.1.trans h'.1, fun i b hb => h'.2 i b (h.2 i b hb)⟩
theorem lel.antisymm {o p : List Nat} (h : lel o p) (h' : lel p o) : o = p := by
  apply List.ext_getElem h.1
  intro i h1 h2
  have e1 : o.getD i 0 = o[i] := by rw [List.getD_eq_getElem?_getD, List.getElem?_eq_getElem h1]; rfl
  have e2 : p.getD i 0 = p[i] := by rw [List.getD_eq_getElem?_getD, List.getElem?_eq_getElem h2]; rfl
  rw [← e1, ← e2]
  apply Nat.eq_of_testBit_eq
  intro b
  rw [Bool.eq_iff_iff]
  exact ⟨h.2 i b, h'.2 i b⟩
theorem lel_cst (o : List Nat) (k i : Nat) : lel o (cst o k i) := by
  refine ⟨(cst_length o k i).symm, fun j b hb => ?_⟩
  unfold cst
  split
  · rw [getD_set]
    split
    · rename_i h; rw [Nat.testBit_or, h.1, hb]; rfl
    · exact hb
  · exact hb
theorem lel_cin (o : List Nat) (k i j : Nat) : lel (cin o k i) (cin o k (i + j)) := by
  induction j with
  | zero => exact lel.refl _
  | succ j ih => exact ih.trans (lel_cst _ _ _)
theorem lel_clo (o : List Nat) (k j : Nat) : lel (clo o k) (clo o (k + j)) := by
  induction j with
  | zero => exact lel.refl _
  | succ j ih => refine ih.trans ?_; have := lel_cin (clo o (k + j)) (k + j) 0 o.length; rw [Nat.zero_add] at this; exact this
def tra (ns : List Nat) : Prop := ∀ x, x < ns.length → ∀ k, k < ns.length → (ns.getD x 0).testBit k = true → ns.getD x 0 ||| ns.getD k 0 = ns.getD x 0
theorem set_self (o : List Nat) (i : Nat) : o.set i (o.getD i 0) = o := by
  apply List.ext_getElem (by simp)
  intro j h1 h2
  rw [List.getElem_set]
  split
  · rename_i h
    subst h
    rw [List.getD_eq_getElem?_getD, List.getElem?_eq_getElem h2]; rfl
  · rfl
theorem cst_tra {ns : List Nat} (h : tra ns) {k i : Nat} (hk : k < ns.length) (hi : i < ns.length) : cst ns k i = ns := by
  unfold cst
  split
  · rename_i hb; rw [h i hi k hk hb, set_self]
  · rfl
theorem cin_tra {ns : List Nat} (h : tra ns) {k i : Nat} (hk : k < ns.length) (hi : i ≤ ns.length) : cin ns k i = ns := by
  induction i with
  | zero => rfl
  | succ i ih => rw [cin, ih (by omega), cst_tra h hk (by omega)]
theorem clo_tra {ns : List Nat} (h : tra ns) {k : Nat} (hk : k ≤ ns.length) : clo ns k = ns := by
  induction k with
  | zero => rfl
  | succ k ih => rw [clo, ih (by omega), cin_tra h (by omega) (Nat.le_refl _)]
theorem tra_of {ns : List Nat} (h : clo ns ns.length = ns) : tra ns := by
  intro x hx k hk hb
  have h1 : clo ns k = ns := by
    have a := lel_clo ns 0 k
    have b := lel_clo ns k (ns.length - k)
    rw [Nat.zero_add] at a
    rw [show k + (ns.length - k) = ns.length by omega, h] at b
    exact (a.antisymm b).symm
  have h2 : clo ns (k + 1) = ns := by
    have a := lel_clo ns 0 (k + 1)
    have b := lel_clo ns (k + 1) (ns.length - (k + 1))
    rw [Nat.zero_add] at a
    rw [show k + 1 + (ns.length - (k + 1)) = ns.length by omega, h] at b
    exact (a.antisymm b).symm
  rw [clo, h1] at h2
  have h3 : ∀ i, i ≤ ns.length → cin ns k i = ns := by
    intro i hi
    have a := lel_cin ns k 0 i
    have b := lel_cin ns k i (ns.length - i)
    rw [Nat.zero_add] at a
    rw [show i + (ns.length - i) = ns.length by omega, h2] at b
    exact (a.antisymm b).symm
  have h4 := h3 (x + 1) (by omega)
  rw [cin, h3 x (by omega), cst, if_pos hb] at h4
  have h5 := congrArg (fun l => l.getD x 0) h4
  simp only [getD_set] at h5
  rw [if_pos (by first | exact ⟨rfl, hx⟩ | exact ⟨trivial, hx⟩)] at h5
  exact h5
/-- is the frame transitive? -/
def trv (ns : List Nat) : Bool := (List.range ns.length).all fun x => decide (andnot (img ns (ns.getD x 0)) (ns.getD x 0) = 0)
theorem trv_iff (ns : List Nat) : trv ns = true ↔ tra ns := by
  unfold trv
  rw [List.all_eq_true]
  constructor
  · intro h x hx k hk hb
    have h1 := (andnot_zero _ _).1 (of_decide_eq_true (h x (List.mem_range.2 hx)))
    apply Nat.eq_of_testBit_eq
    intro b
    rw [Nat.testBit_or]
    cases h2 : (ns.getD k 0).testBit b
    · rw [Bool.or_false]
    · rw [h1 b ((imgTo_bit _ _ _ _).2 ⟨k, hk, hb, h2⟩)]; rfl
  · intro h x hx
    rw [List.mem_range] at hx
    refine decide_eq_true ((andnot_zero _ _).2 fun b hb => ?_)
    obtain ⟨k, hk, h1, h2⟩ := (imgTo_bit _ _ _ _).1 hb
    have := congrArg (fun n => n.testBit b) (h x hx k hk h1)
    simp only [Nat.testBit_or, h2, Bool.or_true] at this
    exact this.symm
theorem trv_clo (ns : List Nat) : trv ns = decide (clo ns ns.length = ns) := by
  rw [Bool.eq_iff_iff, trv_iff, decide_eq_true_eq]
  exact ⟨fun h => clo_tra h (Nat.le_refl _), tra_of⟩
/-- is the frame acyclic? -/
def acy (ns : List Nat) : Bool := (List.range ns.length).all fun x => !((clo ns ns.length).getD x 0).testBit x
/-- the mask after k rounds -/
def slvn (ns us : List Nat) (f : Fm) (s : Nat) : Nat → Nat
  | 0 => 0
  | k + 1 => slv ns us f s (slvn ns us f s k)
/-- what SolveOnFrame says -/
def sfOk (ns : List Nat) (f : Fm) (s : Nat) : Bool := trv ns && acy ns && gd f s
theorem slv_lt (ns us : List Nat) (f : Fm) (s m : Nat) (hus : ∀ x ∈ us, x < 2 ^ ns.length) (hm : m < 2 ^ ns.length) : slv ns us f s m < 2 ^ ns.length :=
  tv_lt ns _ (set_lt hus s m hm) f
theorem slvn_lt (ns us : List Nat) (f : Fm) (s : Nat) (hus : ∀ x ∈ us, x < 2 ^ ns.length) (k : Nat) : slvn ns us f s k < 2 ^ ns.length := by
  induction k with
  | zero => exact Nat.pow_pos (by decide)
  | succ k ih => exact slv_lt ns us f s _ hus ih
end Go.Proofs.YtebpjcbgnagjeaaGreat

/- Contracts of SolveOnFrame, of the program and of the reference. -/
import Derived.Test.YtebpjcbgnagjeaaGreatFD
namespace Go.Proofs.YtebpjcbgnagjeaaGreat
open Go.RowKit
set_option linter.unusedVariables false
set_option linter.unusedSimpArgs false
theorem g_l03Guarded (f : Fm) (s : Nat) (v : Value) (w : World) (h : Sl cN w v (enc f)) (hl : (enc f).length ≤ 1048576) :
    Calls Tryz.prog 21 #[v, .int .i64 s] w fun e w' => e = .returned (.bool (gd f s)) ∧ Below w.heap.size w w' :=
  (spec_l03Guarded f s v w h hl).mono fun e w' hh => ⟨hh.1, hh.2 ▸ Below.refl _ _⟩
theorem impl_SolveOnFrame_bad (n v : Int) (va vu vf : Value) (xs vs : List Int) (zs : List Nd) (w : World) (ha : Sl cI w va xs) (hu : Sl cI w vu vs) (hf : Sl cN w vf zs) (hl : xs.length ≤ 1048576) (hl' : vs.length ≤ 1048576) (hl2 : zs.length ≤ 1048576) (hc : scode n xs vs zs v ≠ 0) :
    Calls Tryz.prog 6 #[.agg #[.int .i64 n, va], vf, .int .i64 v, vu] w fun e w' => e = .returned (.tuple #[.int .i64 0, .int .i64 (scode n xs vs zs v)]) ∧ Below w.heap.size w w' := by
  obtain ⟨A0, c0, rfl⟩ := ha.opn
  have hb0 := below_alloc' w (.cells #[.int .i64 n, .slice A0 xs.length c0] 26)
  have H1 := Lib.hid (impl_solveCode n v _ _ _ xs vs zs _ (ha.below hb0) (hu.below hb0) (hf.below hb0) hl hl' hl2)
  have HB := Lib.hid hb0
  have hc' : (scode n xs vs zs v != 0) = true := by simpa using hc
  generalize scode n xs vs zs v = k at *
  clear ha hu hf hb0 hc
  go_enter Tryz.func6, Tryz.ntmps6
  go_wp2_with fail
  refine H1.out.mono ?_
  rintro e w1 ⟨rfl, hb⟩
  have HB1 := Lib.hid (HB.out.trans (hb.mono HB.out.size))
  clear hb
  go_wp2
  go_ret2
  exact ⟨rfl, HB1.out⟩
theorem impl_SolveOnFrame_no1 (ns us : List Nat) (f : Fm) (s : Nat) (va vu v : Value) (w : World) (ha : Sl cI w va (li ns)) (hu : Sl cI w vu (li us)) (h : Sl cN w v (enc f)) (hr : RelN ns) (hu6 : us.length = 6) (hus : ∀ x ∈ us, x < 2 ^ ns.length) (hok : f.ok = true) (hl : (enc f).length ≤ 40) (hs : s ≤ 5) (hc : scode ns.length (li ns) (li us) (enc f) s = 0) (h1 : trv ns = false) :
    Calls Tryz.prog 6 #[.agg #[.int .i64 (ns.length : Int), va], v, .int .i64 s, vu] w fun e w' => e = .returned (.tuple #[.int .i64 0, .int .i64 5]) ∧ Below w.heap.size w w' := by
  obtain ⟨A0, c0, rfl⟩ := ha.opn
  have en : (li ns).length = ns.length := li_length ns
  rw [en] at ha ⊢
  have h8 := hr.1
  have hb0 := below_alloc' w (.cells #[.int .i64 (ns.length : Int), .slice A0 ns.length c0] 26)
  have hk0 := Blk.new w 26 #[.int .i64 (ns.length : Int), .slice A0 ns.length c0]
  have hkl := hk0.lt
  have HK := Lib.hid hk0
  have H1 := Lib.hid (hc ▸ impl_solveCode ns.length s _ _ _ (li ns) (li us) (enc f) _ (ha.below hb0) (hu.below hb0) (h.below hb0) (by rw [li_length]; omega) (by rw [li_length]; omega) (by omega))
  have HS := Lib.hid (fun (W : World) (hb : Below w.heap.size w W) (m : Nat) (hm : m < 2 ^ ns.length) => impl_solvedWith ns us f s m _ _ _ W (ha.below hb) (hu.below hb) (h.below hb) hr hu6 hus hok hl hs hm)
  have HF2 := Lib.hid (fun (W : World) (hb : Below w.heap.size w W) => impl_hasFlag_2 ns _ W (ha.below hb) hr)
  have HF7 := Lib.hid (fun (W : World) (hb : Below w.heap.size w W) => impl_hasFlag_7 ns _ W (ha.below hb) hr)
  have HG := Lib.hid (fun (W : World) (hb : Below w.heap.size w W) => impl_isGuarded f s _ W (h.below hb) (by omega))
  have HB := Lib.hid hb0
  have HM := Lib.hid (slvn_lt ns us f s hus)
  clear ha hu h hb0 hk0 en hr hok hc hus
  go_enter Tryz.func6, Tryz.ntmps6
  go_wp2_with fail
  refine H1.out.mono ?_
  rintro e w1 ⟨rfl, hb⟩
  have HB1 := Lib.hid (HB.out.trans (hb.mono HB.out.size))
  have HK1 := Lib.hid (HK.out.below hb hkl)
  have k1 := HK1.out.cell
  have k2 := HK1.out.lt
  clear hb
  go_wp2_with fail
  refine (HF2.out _ HB1.out).mono ?_
  rintro e w2 ⟨rfl, hb⟩
  have HB2 := Lib.hid (bthen HB1.out hb)
  have HK2 := Lib.hid (HK1.out.below hb k2)
  clear hb k1 k2
  rw [h1]
  have k1 := HK2.out.cell
  have k2 := HK2.out.lt
  go_wp2
  go_ret2
  exact ⟨rfl, HB2.out⟩
theorem impl_SolveOnFrame_no2 (ns us : List Nat) (f : Fm) (s : Nat) (va vu v : Value) (w : World) (ha : Sl cI w va (li ns)) (hu : Sl cI w vu (li us)) (h : Sl cN w v (enc f)) (hr : RelN ns) (hu6 : us.length = 6) (hus : ∀ x ∈ us, x < 2 ^ ns.length) (hok : f.ok = true) (hl : (enc f).length ≤ 40) (hs : s ≤ 5) (hc : scode ns.length (li ns) (li us) (enc f) s = 0) (h1 : trv ns = true) (h2 : acy ns = false) :
    Calls Tryz.prog 6 #[.agg #[.int .i64 (ns.length : Int), va], v, .int .i64 s, vu] w fun e w' => e = .returned (.tuple #[.int .i64 0, .int .i64 5]) ∧ Below w.heap.size w w' := by
  obtain ⟨A0, c0, rfl⟩ := ha.opn
  have en : (li ns).length = ns.length := li_length ns
  rw [en] at ha ⊢
  have h8 := hr.1
  have hb0 := below_alloc' w (.cells #[.int .i64 (ns.length : Int), .slice A0 ns.length c0] 26)
  have hk0 := Blk.new w 26 #[.int .i64 (ns.length : Int), .slice A0 ns.length c0]
  have hkl := hk0.lt
  have HK := Lib.hid hk0
  have H1 := Lib.hid (hc ▸ impl_solveCode ns.length s _ _ _ (li ns) (li us) (enc f) _ (ha.below hb0) (hu.below hb0) (h.below hb0) (by rw [li_length]; omega) (by rw [li_length]; omega) (by omega))
  have HS := Lib.hid (fun (W : World) (hb : Below w.heap.size w W) (m : Nat) (hm : m < 2 ^ ns.length) => impl_solvedWith ns us f s m _ _ _ W (ha.below hb) (hu.below hb) (h.below hb) hr hu6 hus hok hl hs hm)
  have HF2 := Lib.hid (fun (W : World) (hb : Below w.heap.size w W) => impl_hasFlag_2 ns _ W (ha.below hb) hr)
  have HF7 := Lib.hid (fun (W : World) (hb : Below w.heap.size w W) => impl_hasFlag_7 ns _ W (ha.below hb) hr)
  have HG := Lib.hid (fun (W : World) (hb : Below w.heap.size w W) => impl_isGuarded f s _ W (h.below hb) (by omega))
  have HB := Lib.hid hb0
  have HM := Lib.hid (slvn_lt ns us f s hus)
  clear ha hu h hb0 hk0 en hr hok hc hus
  go_enter Tryz.func6, Tryz.ntmps6
  go_wp2_with fail
  refine H1.out.mono ?_
  rintro e w1 ⟨rfl, hb⟩
  have HB1 := Lib.hid (HB.out.trans (hb.mono HB.out.size))
  have HK1 := Lib.hid (HK.out.below hb hkl)
  have k1 := HK1.out.cell
  have k2 := HK1.out.lt
  clear hb
  go_wp2_with fail
  refine (HF2.out _ HB1.out).mono ?_
  rintro e w2 ⟨rfl, hb⟩
  have HB2 := Lib.hid (bthen HB1.out hb)
  have HK2 := Lib.hid (HK1.out.below hb k2)
  clear hb k1 k2
  rw [h1]
  have k1 := HK2.out.cell
  have k2 := HK2.out.lt
  go_wp2_with fail
  refine (HF7.out _ HB2.out).mono ?_
  rintro e w3 ⟨rfl, hb⟩
  have HB3 := Lib.hid (bthen HB2.out hb)
  have HK3 := Lib.hid (HK2.out.below hb k2)
  clear hb k1 k2
  rw [h2]
  have k1 := HK3.out.cell
  have k2 := HK3.out.lt
  go_wp2
  go_ret2
  exact ⟨rfl, HB3.out⟩
theorem impl_SolveOnFrame_no3 (ns us : List Nat) (f : Fm) (s : Nat) (va vu v : Value) (w : World) (ha : Sl cI w va (li ns)) (hu : Sl cI w vu (li us)) (h : Sl cN w v (enc f)) (hr : RelN ns) (hu6 : us.length = 6) (hus : ∀ x ∈ us, x < 2 ^ ns.length) (hok : f.ok = true) (hl : (enc f).length ≤ 40) (hs : s ≤ 5) (hc : scode ns.length (li ns) (li us) (enc f) s = 0) (h1 : trv ns = true) (h2 : acy ns = true) (h3 : gd f s = false) :
    Calls Tryz.prog 6 #[.agg #[.int .i64 (ns.length : Int), va], v, .int .i64 s, vu] w fun e w' => e = .returned (.tuple #[.int .i64 0, .int .i64 5]) ∧ Below w.heap.size w w' := by
  obtain ⟨A0, c0, rfl⟩ := ha.opn
  have en : (li ns).length = ns.length := li_length ns
  rw [en] at ha ⊢
  have h8 := hr.1
  have hb0 := below_alloc' w (.cells #[.int .i64 (ns.length : Int), .slice A0 ns.length c0] 26)
  have hk0 := Blk.new w 26 #[.int .i64 (ns.length : Int), .slice A0 ns.length c0]
  have hkl := hk0.lt
  have HK := Lib.hid hk0
  have H1 := Lib.hid (hc ▸ impl_solveCode ns.length s _ _ _ (li ns) (li us) (enc f) _ (ha.below hb0) (hu.below hb0) (h.below hb0) (by rw [li_length]; omega) (by rw [li_length]; omega) (by omega))
  have HS := Lib.hid (fun (W : World) (hb : Below w.heap.size w W) (m : Nat) (hm : m < 2 ^ ns.length) => impl_solvedWith ns us f s m _ _ _ W (ha.below hb) (hu.below hb) (h.below hb) hr hu6 hus hok hl hs hm)
  have HF2 := Lib.hid (fun (W : World) (hb : Below w.heap.size w W) => impl_hasFlag_2 ns _ W (ha.below hb) hr)
  have HF7 := Lib.hid (fun (W : World) (hb : Below w.heap.size w W) => impl_hasFlag_7 ns _ W (ha.below hb) hr)
  have HG := Lib.hid (fun (W : World) (hb : Below w.heap.size w W) => impl_isGuarded f s _ W (h.below hb) (by omega))
  have HB := Lib.hid hb0
  have HM := Lib.hid (slvn_lt ns us f s hus)
  clear ha hu h hb0 hk0 en hr hok hc hus
  go_enter Tryz.func6, Tryz.ntmps6
  go_wp2_with fail
  refine H1.out.mono ?_
  rintro e w1 ⟨rfl, hb⟩
  have HB1 := Lib.hid (HB.out.trans (hb.mono HB.out.size))
  have HK1 := Lib.hid (HK.out.below hb hkl)
  have k1 := HK1.out.cell
  have k2 := HK1.out.lt
  clear hb
  go_wp2_with fail
  refine (HF2.out _ HB1.out).mono ?_
  rintro e w2 ⟨rfl, hb⟩
  have HB2 := Lib.hid (bthen HB1.out hb)
  have HK2 := Lib.hid (HK1.out.below hb k2)
  clear hb k1 k2
  rw [h1]
  have k1 := HK2.out.cell
  have k2 := HK2.out.lt
  go_wp2_with fail
  refine (HF7.out _ HB2.out).mono ?_
  rintro e w3 ⟨rfl, hb⟩
  have HB3 := Lib.hid (bthen HB2.out hb)
  have HK3 := Lib.hid (HK2.out.below hb k2)
  clear hb k1 k2
  rw [h2]
  have k1 := HK3.out.cell
  have k2 := HK3.out.lt
  go_wp2_with fail
  refine (HG.out _ HB3.out).mono ?_
  rintro e w4 ⟨rfl, hb⟩
  have HB4 := Lib.hid (bthen HB3.out hb)
  have HK4 := Lib.hid (HK3.out.below hb k2)
  clear hb k1 k2
  rw [h3]
  have k1 := HK4.out.cell
  have k2 := HK4.out.lt
  go_wp2
  go_ret2
  exact ⟨rfl, HB4.out⟩
theorem impl_SolveOnFrame_ok (ns us : List Nat) (f : Fm) (s : Nat) (va vu v : Value) (w : World) (ha : Sl cI w va (li ns)) (hu : Sl cI w vu (li us)) (h : Sl cN w v (enc f)) (hr : RelN ns) (hu6 : us.length = 6) (hus : ∀ x ∈ us, x < 2 ^ ns.length) (hok : f.ok = true) (hl : (enc f).length ≤ 40) (hs : s ≤ 5) (hc : scode ns.length (li ns) (li us) (enc f) s = 0) (h1 : trv ns = true) (h2 : acy ns = true) (h3 : gd f s = true) :
    Calls Tryz.prog 6 #[.agg #[.int .i64 (ns.length : Int), va], v, .int .i64 s, vu] w fun e w' => e = .returned (.tuple #[.int .i64 (slvn ns us f s ns.length : Nat), .int .i64 0]) ∧ Below w.heap.size w w' := by
  obtain ⟨A0, c0, rfl⟩ := ha.opn
  have en : (li ns).length = ns.length := li_length ns
  rw [en] at ha ⊢
  have h8 := hr.1
  have hb0 := below_alloc' w (.cells #[.int .i64 (ns.length : Int), .slice A0 ns.length c0] 26)
  have hk0 := Blk.new w 26 #[.int .i64 (ns.length : Int), .slice A0 ns.length c0]
  have hkl := hk0.lt
  have HK := Lib.hid hk0
  have H1 := Lib.hid (hc ▸ impl_solveCode ns.length s _ _ _ (li ns) (li us) (enc f) _ (ha.below hb0) (hu.below hb0) (h.below hb0) (by rw [li_length]; omega) (by rw [li_length]; omega) (by omega))
  have HS := Lib.hid (fun (W : World) (hb : Below w.heap.size w W) (m : Nat) (hm : m < 2 ^ ns.length) => impl_solvedWith ns us f s m _ _ _ W (ha.below hb) (hu.below hb) (h.below hb) hr hu6 hus hok hl hs hm)
  have HF2 := Lib.hid (fun (W : World) (hb : Below w.heap.size w W) => impl_hasFlag_2 ns _ W (ha.below hb) hr)
  have HF7 := Lib.hid (fun (W : World) (hb : Below w.heap.size w W) => impl_hasFlag_7 ns _ W (ha.below hb) hr)
  have HG := Lib.hid (fun (W : World) (hb : Below w.heap.size w W) => impl_isGuarded f s _ W (h.below hb) (by omega))
  have HB := Lib.hid hb0
  have HM := Lib.hid (slvn_lt ns us f s hus)
  clear ha hu h hb0 hk0 en hr hok hc hus
  go_enter Tryz.func6, Tryz.ntmps6
  go_wp2_with fail
  refine H1.out.mono ?_
  rintro e w1 ⟨rfl, hb⟩
  have HB1 := Lib.hid (HB.out.trans (hb.mono HB.out.size))
  have HK1 := Lib.hid (HK.out.below hb hkl)
  have k1 := HK1.out.cell
  have k2 := HK1.out.lt
  clear hb
  go_wp2_with fail
  refine (HF2.out _ HB1.out).mono ?_
  rintro e w2 ⟨rfl, hb⟩
  have HB2 := Lib.hid (bthen HB1.out hb)
  have HK2 := Lib.hid (HK1.out.below hb k2)
  clear hb k1 k2
  rw [h1]
  have k1 := HK2.out.cell
  have k2 := HK2.out.lt
  go_wp2_with fail
  refine (HF7.out _ HB2.out).mono ?_
  rintro e w3 ⟨rfl, hb⟩
  have HB3 := Lib.hid (bthen HB2.out hb)
  have HK3 := Lib.hid (HK2.out.below hb k2)
  clear hb k1 k2
  rw [h2]
  have k1 := HK3.out.cell
  have k2 := HK3.out.lt
  go_wp2_with fail
  refine (HG.out _ HB3.out).mono ?_
  rintro e w4 ⟨rfl, hb⟩
  have HB4 := Lib.hid (bthen HB3.out hb)
  have HK4 := Lib.hid (HK3.out.below hb k2)
  clear hb k1 k2
  rw [h3]
  have k1 := HK4.out.cell
  have k2 := HK4.out.lt
  clear h1 h2 h3
  go_wp2
  go_loopw [11, 38] (fun t i wr => ∃ j : Nat, j ≤ ns.length ∧ i = .int .i64 j ∧ t = .int .i64 (slvn ns us f s j : Nat) ∧ Blk wr w.heap.size 26 #[.int .i64 (ns.length : Int), .slice A0 ns.length c0] ∧ Below w.heap.size w wr) (fun _ i _ => ns.length - (intOf i).toNat)
  case atStart => exact ⟨0, Nat.zero_le _, rfl, rfl, HK4.out, HB4.out⟩
  case round =>
    obtain ⟨j, hj, rfl, rfl, hk, hb⟩ := hrel
    have HKr := Lib.hid hk
    have HBr := Lib.hid hb
    have k1 := hk.cell
    have k2 := hk.lt
    have hm := HM.out j
    clear hk hb HK4 HB4 HK3 HB3 HK2 HB2 HK1 HB1
    by_cases hlt : j < ns.length
    · have HE : Hid (slvn ns us f s (j + 1) = slv ns us f s (slvn ns us f s j)) := Lib.hid rfl
      have HQ := Lib.hid hm
      generalize slvn ns us f s j = q at *
      clear hm
      go_wp2_with fail
      refine (HS.out _ HBr.out q HQ.out).mono ?_
      rintro e w5 ⟨rfl, hb⟩
      have HB5 := Lib.hid (bthen HBr.out hb)
      have HK5 := Lib.hid (HKr.out.below hb k2)
      clear hb k1 k2
      go_wp2
      go_roundw
      case rel => exact ⟨j + 1, by omega, by go_num, by rw [HE.out], HK5.out, HB5.out⟩
      case measure => simp [intOf]; omega
    · obtain rfl : j = ns.length := by omega
      go_wp2
      go_ret2
      exact ⟨rfl, HBr.out⟩
theorem spec_SolveOnFrame_bad (n v : Int) (va vu vf : Value) (xs vs : List Int) (zs : List Nd) (w : World) (ha : Sl cI w va xs) (hu : Sl cI w vu vs) (hf : Sl cN w vf zs) (hl : xs.length ≤ 1048576) (hl' : vs.length ≤ 1048576) (hl2 : zs.length ≤ 1048576) (hc : scode n xs vs zs v ≠ 0) :
    Calls Tryz.prog 7 #[.agg #[.int .i64 n, va], vf, .int .i64 v, vu] w fun e w' => e = .returned (.tuple #[.int .i64 0, .int .i64 (scode n xs vs zs v)]) ∧ Below w.heap.size w w' := by
  obtain ⟨A0, c0, rfl⟩ := ha.opn
  have hb0 := below_alloc' w (.cells #[.int .i64 n, .slice A0 xs.length c0] 26)
  have H1 := Lib.hid (spec_l33Frame n v _ _ _ xs vs zs _ (ha.below hb0) (hu.below hb0) (hf.below hb0) hl hl' hl2)
  have HB := Lib.hid hb0
  have hc' : (scode n xs vs zs v != 0) = true := by simpa using hc
  generalize scode n xs vs zs v = k at *
  clear ha hu hf hb0 hc
  go_enter Tryz.func7, Tryz.ntmps7
  go_wp2_with fail
  refine H1.out.mono ?_
  rintro e w1 ⟨rfl, hb⟩
  have HB1 := Lib.hid (HB.out.trans (hb.mono HB.out.size))
  clear hb
  go_wp2
  go_ret2
  exact ⟨rfl, HB1.out⟩
theorem spec_SolveOnFrame_no1 (ns us : List Nat) (f : Fm) (s : Nat) (va vu v : Value) (w : World) (ha : Sl cI w va (li ns)) (hu : Sl cI w vu (li us)) (h : Sl cN w v (enc f)) (hr : RelN ns) (hu6 : us.length = 6) (hus : ∀ x ∈ us, x < 2 ^ ns.length) (hok : f.ok = true) (hl : (enc f).length ≤ 40) (hs : s ≤ 5) (hc : scode ns.length (li ns) (li us) (enc f) s = 0) (h1 : trv ns = false) :
    Calls Tryz.prog 7 #[.agg #[.int .i64 (ns.length : Int), va], v, .int .i64 s, vu] w fun e w' => e = .returned (.tuple #[.int .i64 0, .int .i64 5]) ∧ Below w.heap.size w w' := by
  obtain ⟨A0, c0, rfl⟩ := ha.opn
  have en : (li ns).length = ns.length := li_length ns
  rw [en] at ha ⊢
  have h8 := hr.1
  have hb0 := below_alloc' w (.cells #[.int .i64 (ns.length : Int), .slice A0 ns.length c0] 26)
  have hk0 := Blk.new w 26 #[.int .i64 (ns.length : Int), .slice A0 ns.length c0]
  have hkl := hk0.lt
  have HK := Lib.hid hk0
  have H1 := Lib.hid (hc ▸ spec_l33Frame ns.length s _ _ _ (li ns) (li us) (enc f) _ (ha.below hb0) (hu.below hb0) (h.below hb0) (by rw [li_length]; omega) (by rw [li_length]; omega) (by omega))
  have HS := Lib.hid (fun (W : World) (hb : Below w.heap.size w W) (m : Nat) (hm : m < 2 ^ ns.length) => spec_l33Next ns us f s m _ _ _ W (ha.below hb) (hu.below hb) (h.below hb) hr hu6 hus hok hl hs hm)
  have HF2 := Lib.hid (fun (W : World) (hb : Below w.heap.size w W) => spec_l05Flag_2 ns _ W (ha.below hb) hr)
  have HF7 := Lib.hid (fun (W : World) (hb : Below w.heap.size w W) => spec_l05Flag_7 ns _ W (ha.below hb) hr)
  have HG := Lib.hid (fun (W : World) (hb : Below w.heap.size w W) => g_l03Guarded f s _ W (h.below hb) (by omega))
  have HB := Lib.hid hb0
  have HM := Lib.hid (slvn_lt ns us f s hus)
  clear ha hu h hb0 hk0 en hr hok hc hus
  go_enter Tryz.func7, Tryz.ntmps7
  go_wp2_with fail
  refine H1.out.mono ?_
  rintro e w1 ⟨rfl, hb⟩
  have HB1 := Lib.hid (HB.out.trans (hb.mono HB.out.size))
  have HK1 := Lib.hid (HK.out.below hb hkl)
  have k1 := HK1.out.cell
  have k2 := HK1.out.lt
  clear hb
  go_wp2_with fail
  refine (HF2.out _ HB1.out).mono ?_
  rintro e w2 ⟨rfl, hb⟩
  have HB2 := Lib.hid (bthen HB1.out hb)
  have HK2 := Lib.hid (HK1.out.below hb k2)
  clear hb k1 k2
  rw [h1]
  have k1 := HK2.out.cell
  have k2 := HK2.out.lt
  go_wp2
  go_ret2
  exact ⟨rfl, HB2.out⟩
theorem spec_SolveOnFrame_no2 (ns us : List Nat) (f : Fm) (s : Nat) (va vu v : Value) (w : World) (ha : Sl cI w va (li ns)) (hu : Sl cI w vu (li us)) (h : Sl cN w v (enc f)) (hr : RelN ns) (hu6 : us.length = 6) (hus : ∀ x ∈ us, x < 2 ^ ns.length) (hok : f.ok = true) (hl : (enc f).length ≤ 40) (hs : s ≤ 5) (hc : scode ns.length (li ns) (li us) (enc f) s = 0) (h1 : trv ns = true) (h2 : acy ns = false) :
    Calls Tryz.prog 7 #[.agg #[.int .i64 (ns.length : Int), va], v, .int .i64 s, vu] w fun e w' => e = .returned (.tuple #[.int .i64 0, .int .i64 5]) ∧ Below w.heap.size w w' := by
  obtain ⟨A0, c0, rfl⟩ := ha.opn
  have en : (li ns).length = ns.length := li_length ns
  rw [en] at ha ⊢
  have h8 := hr.1
  have hb0 := below_alloc' w (.cells #[.int .i64 (ns.length : Int), .slice A0 ns.length c0] 26)
  have hk0 := Blk.new w 26 #[.int .i64 (ns.length : Int), .slice A0 ns.length c0]
  have hkl := hk0.lt
  have HK := Lib.hid hk0
  have H1 := Lib.hid (hc ▸ spec_l33Frame ns.length s _ _ _ (li ns) (li us) (enc f) _ (ha.below hb0) (hu.below hb0) (h.below hb0) (by rw [li_length]; omega) (by rw [li_length]; omega) (by omega))
  have HS := Lib.hid (fun (W : World) (hb : Below w.heap.size w W) (m : Nat) (hm : m < 2 ^ ns.length) => spec_l33Next ns us f s m _ _ _ W (ha.below hb) (hu.below hb) (h.below hb) hr hu6 hus hok hl hs hm)
  have HF2 := Lib.hid (fun (W : World) (hb : Below w.heap.size w W) => spec_l05Flag_2 ns _ W (ha.below hb) hr)
  have HF7 := Lib.hid (fun (W : World) (hb : Below w.heap.size w W) => spec_l05Flag_7 ns _ W (ha.below hb) hr)
  have HG := Lib.hid (fun (W : World) (hb : Below w.heap.size w W) => g_l03Guarded f s _ W (h.below hb) (by omega))
  have HB := Lib.hid hb0
  have HM := Lib.hid (slvn_lt ns us f s hus)
  clear ha hu h hb0 hk0 en hr hok hc hus
  go_enter Tryz.func7, Tryz.ntmps7
  go_wp2_with fail
  refine H1.out.mono ?_
  rintro e w1 ⟨rfl, hb⟩
  have HB1 := Lib.hid (HB.out.trans (hb.mono HB.out.size))
  have HK1 := Lib.hid (HK.out.below hb hkl)
  have k1 := HK1.out.cell
  have k2 := HK1.out.lt
  clear hb
  go_wp2_with fail
  refine (HF2.out _ HB1.out).mono ?_
  rintro e w2 ⟨rfl, hb⟩
  have HB2 := Lib.hid (bthen HB1.out hb)
  have HK2 := Lib.hid (HK1.out.below hb k2)
  clear hb k1 k2
  rw [h1]
  have k1 := HK2.out.cell
  have k2 := HK2.out.lt
  go_wp2_with fail
  refine (HF7.out _ HB2.out).mono ?_
  rintro e w3 ⟨rfl, hb⟩
  have HB3 := Lib.hid (bthen HB2.out hb)
  have HK3 := Lib.hid (HK2.out.below hb k2)
  clear hb k1 k2
  rw [h2]
  have k1 := HK3.out.cell
  have k2 := HK3.out.lt
  go_wp2
  go_ret2
  exact ⟨rfl, HB3.out⟩
theorem spec_SolveOnFrame_no3 (ns us : List Nat) (f : Fm) (s : Nat) (va vu v : Value) (w : World) (ha : Sl cI w va (li ns)) (hu : Sl cI w vu (li us)) (h : Sl cN w v (enc f)) (hr : RelN ns) (hu6 : us.length = 6) (hus : ∀ x ∈ us, x < 2 ^ ns.length) (hok : f.ok = true) (hl : (enc f).length ≤ 40) (hs : s ≤ 5) (hc : scode ns.length (li ns) (li us) (enc f) s = 0) (h1 : trv ns = true) (h2 : acy ns = true) (h3 : gd f s = false) :
    Calls Tryz.prog 7 #[.agg #[.int .i64 (ns.length : Int), va], v, .int .i64 s, vu] w fun e w' => e = .returned (.tuple #[.int .i64 0, .int .i64 5]) ∧ Below w.heap.size w w' := by
  obtain ⟨A0, c0, rfl⟩ := ha.opn
  have en : (li ns).length = ns.length := li_length ns
  rw [en] at ha ⊢
  have h8 := hr.1
  have hb0 := below_alloc' w (.cells #[.int .i64 (ns.length : Int), .slice A0 ns.length c0] 26)
  have hk0 := Blk.new w 26 #[.int .i64 (ns.length : Int), .slice A0 ns.length c0]
  have hkl := hk0.lt
  have HK := Lib.hid hk0
  have H1 := Lib.hid (hc ▸ spec_l33Frame ns.length s _ _ _ (li ns) (li us) (enc f) _ (ha.below hb0) (hu.below hb0) (h.below hb0) (by rw [li_length]; omega) (by rw [li_length]; omega) (by omega))
  have HS := Lib.hid (fun (W : World) (hb : Below w.heap.size w W) (m : Nat) (hm : m < 2 ^ ns.length) => spec_l33Next ns us f s m _ _ _ W (ha.below hb) (hu.below hb) (h.below hb) hr hu6 hus hok hl hs hm)
  have HF2 := Lib.hid (fun (W : World) (hb : Below w.heap.size w W) => spec_l05Flag_2 ns _ W (ha.below hb) hr)
  have HF7 := Lib.hid (fun (W : World) (hb : Below w.heap.size w W) => spec_l05Flag_7 ns _ W (ha.below hb) hr)
  have HG := Lib.hid (fun (W : World) (hb : Below w.heap.size w W) => g_l03Guarded f s _ W (h.below hb) (by omega))
  have HB := Lib.hid hb0
  have HM := Lib.hid (slvn_lt ns us f s hus)
  clear ha hu h hb0 hk0 en hr hok hc hus
  go_enter Tryz.func7, Tryz.ntmps7
  go_wp2_with fail
  refine H1.out.mono ?_
  rintro e w1 ⟨rfl, hb⟩
  have HB1 := Lib.hid (HB.out.trans (hb.mono HB.out.size))
  have HK1 := Lib.hid (HK.out.below hb hkl)
  have k1 := HK1.out.cell
  have k2 := HK1.out.lt
  clear hb
  go_wp2_with fail
  refine (HF2.out _ HB1.out).mono ?_
  rintro e w2 ⟨rfl, hb⟩
  have HB2 := Lib.hid (bthen HB1.out hb)
  have HK2 := Lib.hid (HK1.out.below hb k2)
  clear hb k1 k2
  rw [h1]
  have k1 := HK2.out.cell
  have k2 := HK2.out.lt
  go_wp2_with fail
  refine (HF7.out _ HB2.out).mono ?_
  rintro e w3 ⟨rfl, hb⟩
  have HB3 := Lib.hid (bthen HB2.out hb)
  have HK3 := Lib.hid (HK2.out.below hb k2)
  clear hb k1 k2
  rw [h2]
  have k1 := HK3.out.cell
  have k2 := HK3.out.lt
  go_wp2_with fail
  refine (HG.out _ HB3.out).mono ?_
  rintro e w4 ⟨rfl, hb⟩
  have HB4 := Lib.hid (bthen HB3.out hb)
  have HK4 := Lib.hid (HK3.out.below hb k2)
  clear hb k1 k2
  rw [h3]
  have k1 := HK4.out.cell
  have k2 := HK4.out.lt
  go_wp2
  go_ret2
  exact ⟨rfl, HB4.out⟩
theorem spec_SolveOnFrame_ok (ns us : List Nat) (f : Fm) (s : Nat) (va vu v : Value) (w : World) (ha : Sl cI w va (li ns)) (hu : Sl cI w vu (li us)) (h : Sl cN w v (enc f)) (hr : RelN ns) (hu6 : us.length = 6) (hus : ∀ x ∈ us, x < 2 ^ ns.length) (hok : f.ok = true) (hl : (enc f).length ≤ 40) (hs : s ≤ 5) (hc : scode ns.length (li ns) (li us) (enc f) s = 0) (h1 : trv ns = true) (h2 : acy ns = true) (h3 : gd f s = true) :
    Calls Tryz.prog 7 #[.agg #[.int .i64 (ns.length : Int), va], v, .int .i64 s, vu] w fun e w' => e = .returned (.tuple #[.int .i64 (slvn ns us f s ns.length : Nat), .int .i64 0]) ∧ Below w.heap.size w w' := by
  obtain ⟨A0, c0, rfl⟩ := ha.opn
  have en : (li ns).length = ns.length := li_length ns
  rw [en] at ha ⊢
  have h8 := hr.1
  have hb0 := below_alloc' w (.cells #[.int .i64 (ns.length : Int), .slice A0 ns.length c0] 26)
  have hk0 := Blk.new w 26 #[.int .i64 (ns.length : Int), .slice A0 ns.length c0]
  have hkl := hk0.lt
  have HK := Lib.hid hk0
  have H1 := Lib.hid (hc ▸ spec_l33Frame ns.length s _ _ _ (li ns) (li us) (enc f) _ (ha.below hb0) (hu.below hb0) (h.below hb0) (by rw [li_length]; omega) (by rw [li_length]; omega) (by omega))
  have HS := Lib.hid (fun (W : World) (hb : Below w.heap.size w W) (m : Nat) (hm : m < 2 ^ ns.length) => spec_l33Next ns us f s m _ _ _ W (ha.below hb) (hu.below hb) (h.below hb) hr hu6 hus hok hl hs hm)
  have HF2 := Lib.hid (fun (W : World) (hb : Below w.heap.size w W) => spec_l05Flag_2 ns _ W (ha.below hb) hr)
  have HF7 := Lib.hid (fun (W : World) (hb : Below w.heap.size w W) => spec_l05Flag_7 ns _ W (ha.below hb) hr)
  have HG := Lib.hid (fun (W : World) (hb : Below w.heap.size w W) => g_l03Guarded f s _ W (h.below hb) (by omega))
  have HB := Lib.hid hb0
  have HM := Lib.hid (slvn_lt ns us f s hus)
  clear ha hu h hb0 hk0 en hr hok hc hus
  go_enter Tryz.func7, Tryz.ntmps7
  go_wp2_with fail
  refine H1.out.mono ?_
  rintro e w1 ⟨rfl, hb⟩
  have HB1 := Lib.hid (HB.out.trans (hb.mono HB.out.size))
  have HK1 := Lib.hid (HK.out.below hb hkl)
  have k1 := HK1.out.cell
  have k2 := HK1.out.lt
  clear hb
  go_wp2_with fail
  refine (HF2.out _ HB1.out).mono ?_
  rintro e w2 ⟨rfl, hb⟩
  have HB2 := Lib.hid (bthen HB1.out hb)
  have HK2 := Lib.hid (HK1.out.below hb k2)
  clear hb k1 k2
  rw [h1]
  have k1 := HK2.out.cell
  have k2 := HK2.out.lt
  go_wp2_with fail
  refine (HF7.out _ HB2.out).mono ?_
  rintro e w3 ⟨rfl, hb⟩
  have HB3 := Lib.hid (bthen HB2.out hb)
  have HK3 := Lib.hid (HK2.out.below hb k2)
  clear hb k1 k2
  rw [h2]
  have k1 := HK3.out.cell
  have k2 := HK3.out.lt
  go_wp2_with fail
  refine (HG.out _ HB3.out).mono ?_
  rintro e w4 ⟨rfl, hb⟩
  have HB4 := Lib.hid (bthen HB3.out hb)
  have HK4 := Lib.hid (HK3.out.below hb k2)
  clear hb k1 k2
  rw [h3]
  have k1 := HK4.out.cell
  have k2 := HK4.out.lt
  clear h1 h2 h3
  go_wp2
  go_loopw [11, 12] (fun t i wr => ∃ j : Nat, j ≤ ns.length ∧ i = .int .i64 j ∧ t = .int .i64 (slvn ns us f s j : Nat) ∧ Blk wr w.heap.size 26 #[.int .i64 (ns.length : Int), .slice A0 ns.length c0] ∧ Below w.heap.size w wr) (fun _ i _ => ns.length - (intOf i).toNat)
  case atStart => exact ⟨0, Nat.zero_le _, rfl, rfl, HK4.out, HB4.out⟩
  case round =>
    obtain ⟨j, hj, rfl, rfl, hk, hb⟩ := hrel
    have HKr := Lib.hid hk
    have HBr := Lib.hid hb
    have k1 := hk.cell
    have k2 := hk.lt
    have hm := HM.out j
    clear hk hb HK4 HB4 HK3 HB3 HK2 HB2 HK1 HB1
    by_cases hlt : j < ns.length
    · have HE : Hid (slvn ns us f s (j + 1) = slv ns us f s (slvn ns us f s j)) := Lib.hid rfl
      have HQ := Lib.hid hm
      generalize slvn ns us f s j = q at *
      clear hm
      go_wp2_with fail
      refine (HS.out _ HBr.out q HQ.out).mono ?_
      rintro e w5 ⟨rfl, hb⟩
      have HB5 := Lib.hid (bthen HBr.out hb)
      have HK5 := Lib.hid (HKr.out.below hb k2)
      clear hb k1 k2
      go_wp2
      go_roundw
      case rel => exact ⟨j + 1, by omega, by go_num, by rw [HE.out], HK5.out, HB5.out⟩
      case measure => simp [intOf]; omega
    · obtain rfl : j = ns.length := by omega
      go_wp2
      go_ret2
      exact ⟨rfl, HBr.out⟩
end Go.Proofs.YtebpjcbgnagjeaaGreat

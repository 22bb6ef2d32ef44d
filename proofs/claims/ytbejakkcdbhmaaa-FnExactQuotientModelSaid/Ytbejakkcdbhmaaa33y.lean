/- Contracts of CountSolutions, of the reference. -/
import Derived.Test.Ytbejakkcdbhmaaa33x
namespace Go.Proofs.Ytbejakkcdbhmaaa
open Go.RowKit
set_option linter.unusedVariables false
set_option linter.unusedSimpArgs false
theorem spec_l06Make (n : Int) (va vu : Value) (xs vs : List Int) (w : World) (ha : Sl cI w va xs) (hu : Sl cI w vu vs) (hl : xs.length ≤ 1048576) (hl' : vs.length ≤ 1048576) :
    Calls Try.prog 155 #[.agg #[.int .i64 n, va], vu] w fun e w' => ∃ r q, e = .returned (.agg #[.int .i64 xs.length, r, q]) ∧ Ow cI 2 w.heap.size w' r xs ∧ Ow cI 2 w.heap.size w' q vs ∧ Below w.heap.size w w' := by
  obtain ⟨A0, c0, rfl⟩ := ha.opn
  have hb0 := (below_alloc' w (.cells #[.int .i64 n, .slice A0 xs.length c0] 37)).trans ((below_alloc' (w.alloc (.cells #[.int .i64 n, .slice A0 xs.length c0] 37)) (.cells #[.int .i64 0, .slice none 0 0, .slice none 0 0] 77)).mono (by simp))
  have hk0 : Blk ((w.alloc (.cells #[.int .i64 n, .slice A0 xs.length c0] 37)).alloc (.cells #[.int .i64 0, .slice none 0 0, .slice none 0 0] 77)) (w.heap.size + 1) 77 #[.int .i64 0, .slice none 0 0, .slice none 0 0] := Blk.new' _ _ _ (by simp)
  have hkl := hk0.lt
  have HK := Lib.hid hk0
  have Ha := Lib.hid (ha.below hb0)
  have Hu := Lib.hid (hu.below hb0)
  have HB := Lib.hid hb0
  clear ha hu hb0 hk0
  go_enter Try.func155, Try.ntmps155
  go_wp2_with fail
  refine (spec_l05Make _ xs _ Ha.out (by omega)).mono ?_
  rintro e w1 ⟨r, rfl, ho, hb⟩
  have HR := Lib.hid ho
  have Hu1 := Lib.hid (Hu.out.below hb)
  have HK1 := Lib.hid (HK.out.below hb hkl)
  have HB1 := Lib.hid (HB.out.trans (hb.mono HB.out.size))
  clear ho hb
  go_wp2_with fail
  refine (spec_l01Own _ vs _ Hu1.out (by omega)).mono ?_
  rintro e w2 ⟨q, rfl, ho, hb⟩
  have hsz := hb.size
  have hz1 := HB1.out.size
  obtain ⟨A3, c3, rfl⟩ := HR.out.opn
  obtain ⟨A4, c4, rfl⟩ := ho.opn
  have hk2 := HK1.out.below hb HK1.out.lt
  obtain ⟨k1, k2, k3⟩ := And.intro hk2.cell (And.intro hk2.frozen hk2.lt)
  have hkl1 := HK1.out.lt
  have hw2 : w.heap.size + 2 ≤ (((w.alloc (.cells #[.int .i64 n, .slice A0 xs.length c0] 37)).alloc (.cells #[.int .i64 0, .slice none 0 0, .slice none 0 0] 77))).heap.size := by simp
  have HR2 := Lib.hid ((HR.out.below hb).mono hw2)
  have HQ2 : Hid (Ow cI 2 (w.heap.size + 2) w2 (.slice A4 vs.length c4) vs) := Lib.hid (ho.mono (by omega))
  have HB2 := Lib.hid (bthen HB1.out hb)
  clear ho hb hk2 hw2
  go_wp2
  refine bodyPost_ret (v := .agg #[.int .i64 xs.length, .slice A3 xs.length c3, .slice A4 vs.length c4]) (by simp [results, Try.results155, go_sem, k1, k2, k3]) rfl ⟨_, _, rfl, ?_, ?_, ?_⟩
  · exact (((HR2.out.setBelow (by show w.heap.size + 1 < w.heap.size + 2; omega) _).setBelow (by show w.heap.size + 1 < w.heap.size + 2; omega) _).setBelow (by show w.heap.size + 1 < w.heap.size + 2; omega) _).mono (by omega)
  · exact (((HQ2.out.setBelow (by show w.heap.size + 1 < w.heap.size + 2; omega) _).setBelow (by show w.heap.size + 1 < w.heap.size + 2; omega) _).setBelow (by show w.heap.size + 1 < w.heap.size + 2; omega) _).mono (by omega)
  · exact ((HB2.out.setCell (by show w.heap.size ≤ w.heap.size + 1; omega) _).setCell (by show w.heap.size ≤ w.heap.size + 1; omega) _).setCell (by show w.heap.size ≤ w.heap.size + 1; omega) _
theorem spec_l33Next (ns us : List Nat) (f : Fm) (s m : Nat) (va vu v : Value) (w : World) (ha : Sl cI w va (li ns)) (hu : Sl cI w vu (li us)) (h : Sl cN w v (enc f)) (hr : RelN ns) (hu6 : us.length = 6) (hus : ∀ x ∈ us, x < 2 ^ ns.length) (hok : f.ok = true) (hl : (enc f).length ≤ 40) (hs : s ≤ 5) (hm : m < 2 ^ ns.length) :
    Calls Try.prog 94 #[.agg #[.int .i64 (ns.length : Int), va], v, .int .i64 s, vu, .int .i64 m] w fun e w' => e = .returned (.int .i64 (slv ns us f s m : Nat)) ∧ Below w.heap.size w w' := by
  obtain ⟨A0, c0, rfl⟩ := ha.opn
  have en : (li ns).length = ns.length := li_length ns
  rw [en] at ha ⊢
  have h8 := hr.1
  have hb0 := below_alloc' w (.cells #[.int .i64 (ns.length : Int), .slice A0 ns.length c0] 37)
  have Ha := Lib.hid (ha.below hb0)
  have Hu := Lib.hid (hu.below hb0)
  have Hh := Lib.hid (h.below hb0)
  have HB := Lib.hid hb0
  have hk0 := Blk.new w 37 #[.int .i64 (ns.length : Int), .slice A0 ns.length c0]
  have HK := Lib.hid hk0
  have hkl := hk0.lt
  have e6 : (li us).length = 6 := by rw [li_length, hu6]
  have e6' : (li (us.set s m)).length = 6 := by rw [li_length, List.length_set, hu6]
  have E6 := Lib.hid e6
  have E6' := Lib.hid e6'
  have EN := Lib.hid en
  have HT := Lib.hid (fun (W : World) (A1 A2 : Option Addr) (c1 c2 : Nat) (hm' : Mdl W (.slice A1 ns.length c1) (.slice A2 6 c2) ns (us.set s m)) (hf : Sl cN W v (enc f)) => spec_l06Truth ns (us.set s m) A1 A2 c1 c2 hr (by simpa using hu6) (set_lt hus s m hm) f hok (by omega) v W hf hm')
  have HS := Lib.hid (li_set us s m)
  clear ha hu h hb0 hk0 e6 e6' en hr hus hok
  go_enter Try.func94, Try.ntmps94
  go_wp2_with fail
  refine (spec_l01Own _ _ _ Hu.out (by rw [E6.out]; omega)).mono ?_
  rintro e w1 ⟨u, rfl, ho, hb⟩
  obtain ⟨g, c, rfl, hg, hg2, -, -⟩ := ho.form (by rw [E6.out]; omega)
  rw [E6.out] at ho ⊢
  obtain ⟨hc1, hf1, -, -⟩ := ho.at1 rfl (j := s) (by rw [E6.out]; omega) rfl
  obtain ⟨old, hc1⟩ : ∃ old, w1.cell? ⟨g, s, none⟩ = some old := ⟨_, hc1⟩
  have hset := ho.set1 (j := s) (x := (m : Int)) (u := .int .i64 m) rfl rfl (by rw [E6.out]; omega)
  rw [HS.out] at hset
  have hBs : Below (w.alloc (.cells #[.int .i64 (ns.length : Int), .slice A0 ns.length c0] 37)).heap.size (w.alloc (.cells #[.int .i64 (ns.length : Int), .slice A0 ns.length c0] 37)) (w1.setCell ⟨g, s, none⟩ (.int .i64 m)) := hb.setCell hg _
  have k1 := (HK.out.below hBs hkl).cell
  have k2 := (HK.out.below hBs hkl).lt
  have HBs := Lib.hid hBs
  have HSet := Lib.hid hset
  have Ha1 := Lib.hid (Ha.out.below hBs)
  have Hh1 := Lib.hid (Hh.out.below hBs)
  have hne : ¬ g = w.heap.size := by simp at hg; omega
  have k0 := (HK.out.below hb hkl).cell
  clear ho hb hset hBs
  go_wp2_with fail
  refine (spec_l06Make _ _ _ (li ns) (li (us.set s m)) _ Ha1.out HSet.out.sl (by rw [EN.out]; omega) (by rw [E6'.out]; omega)).mono ?_
  rintro e w2 ⟨r, q, rfl, hr, hq, hb⟩
  obtain ⟨A1, c1, rfl⟩ := hr.opn
  obtain ⟨A2, c2, rfl⟩ := hq.opn
  have hR := hr.sl
  have hQ := hq.sl
  rw [EN.out] at hR ⊢
  rw [E6'.out] at hQ ⊢
  have HM : Hid (Mdl w2 (.slice A1 ns.length c1) (.slice A2 6 c2) ns (us.set s m)) := Lib.hid ⟨hR, hQ⟩
  have Hh2 := Lib.hid (Hh1.out.below hb)
  have HB2 := Lib.hid (HB.out.trans ((bthen HBs.out hb).mono HB.out.size))
  clear hb hr hq hR hQ k0 k1
  go_wp2_with fail
  refine (HT.out _ A1 A2 c1 c2 HM.out Hh2.out).mono ?_
  rintro e w3 ⟨rfl, hb⟩
  have HB3 := Lib.hid (bthen HB2.out hb)
  clear hb
  go_wp2
  go_ret
  exact ⟨rfl, HB3.out⟩
theorem spec_CountSolutions_bad (n v : Int) (va vu vf : Value) (xs vs : List Int) (zs : List Nd) (w : World) (ha : Sl cI w va xs) (hu : Sl cI w vu vs) (hf : Sl cN w vf zs) (hl : xs.length ≤ 1048576) (hl' : vs.length ≤ 1048576) (hl2 : zs.length ≤ 1048576) (hc : scode n xs vs zs v ≠ 0) :
    Calls Try.prog 23 #[.agg #[.int .i64 n, va], vf, .int .i64 v, vu] w fun e w' => e = .returned (.tuple #[.int .i64 0, .int .i64 (scode n xs vs zs v)]) ∧ Below w.heap.size w w' := by
  obtain ⟨A0, c0, rfl⟩ := ha.opn
  have hb0 := below_alloc' w (.cells #[.int .i64 n, .slice A0 xs.length c0] 37)
  have H1 := Lib.hid (spec_l33Frame n v _ _ _ xs vs zs _ (ha.below hb0) (hu.below hb0) (hf.below hb0) hl hl' hl2)
  have HB := Lib.hid hb0
  have hc' : (scode n xs vs zs v != 0) = true := by simpa using hc
  generalize scode n xs vs zs v = k at *
  clear ha hu hf hb0 hc
  go_enter Try.func23, Try.ntmps23
  go_wp2_with fail
  refine H1.out.mono ?_
  rintro e w1 ⟨rfl, hb⟩
  have HB1 := Lib.hid (HB.out.trans (hb.mono HB.out.size))
  clear hb
  go_wp2
  go_ret2
  exact ⟨rfl, HB1.out⟩
theorem spec_CountSolutions_ok (ns us : List Nat) (f : Fm) (s : Nat) (va vu v : Value) (w : World) (ha : Sl cI w va (li ns)) (hu : Sl cI w vu (li us)) (h : Sl cN w v (enc f)) (hr : RelN ns) (hu6 : us.length = 6) (hus : ∀ x ∈ us, x < 2 ^ ns.length) (hok : f.ok = true) (hl : (enc f).length ≤ 40) (hs : s ≤ 5) (hc : scode ns.length (li ns) (li us) (enc f) s = 0) :
    Calls Try.prog 23 #[.agg #[.int .i64 (ns.length : Int), va], v, .int .i64 s, vu] w fun e w' => e = .returned (.tuple #[.int .i64 (csOut ns us f s : Nat), .int .i64 0]) ∧ Below w.heap.size w w' := by
  obtain ⟨A0, c0, rfl⟩ := ha.opn
  have en : (li ns).length = ns.length := li_length ns
  rw [en] at ha ⊢
  have h8 := hr.1
  have hb0 := below_alloc' w (.cells #[.int .i64 (ns.length : Int), .slice A0 ns.length c0] 37)
  have hk0 := Blk.new w 37 #[.int .i64 (ns.length : Int), .slice A0 ns.length c0]
  have hkl := hk0.lt
  have HK := Lib.hid hk0
  have H1 := Lib.hid (hc ▸ spec_l33Frame ns.length s _ _ _ (li ns) (li us) (enc f) _ (ha.below hb0) (hu.below hb0) (h.below hb0) (by rw [li_length]; omega) (by rw [li_length]; omega) (by omega))
  have HS := Lib.hid (fun (W : World) (hb : Below w.heap.size w W) (m : Nat) (hm : m < 2 ^ ns.length) => spec_l33Next ns us f s m _ _ _ W (ha.below hb) (hu.below hb) (h.below hb) hr hu6 hus hok hl hs hm)
  obtain ⟨F, hF⟩ : ∃ F : Nat, F = 2 ^ ns.length - 1 := ⟨_, rfl⟩
  have hF1 : F + 1 = 2 ^ ns.length := by have := Nat.pow_pos (n := ns.length) (show 0 < 2 by decide); omega
  have hF256 : F < 256 := by have := two_pow_256 h8; omega
  have HA := Lib.hid (fun W => spec_l01Full' ns.length F hF W (by omega))
  have HB := Lib.hid hb0
  have HF1 := Lib.hid hF1
  clear ha hu h hb0 hk0 en hr hok hc hus hF hF1
  go_enter Try.func23, Try.ntmps23
  go_wp2_with fail
  refine H1.out.mono ?_
  rintro e w1 ⟨rfl, hb⟩
  have HB1 := Lib.hid (HB.out.trans (hb.mono HB.out.size))
  have HK1 := Lib.hid (HK.out.below hb hkl)
  clear hb
  go_wp2
  go_loopw [11, 12] (fun t i wr => ∃ j : Nat, j ≤ F + 1 ∧ i = .int .i64 j ∧ t = .int .i64 (csTo ns us f s j : Nat) ∧ Blk wr w.heap.size 37 #[.int .i64 (ns.length : Int), .slice A0 ns.length c0] ∧ Below w.heap.size w wr) (fun _ i _ => F + 1 - (intOf i).toNat)
  case atStart => exact ⟨0, Nat.zero_le _, rfl, rfl, HK1.out, HB1.out⟩
  case round =>
    obtain ⟨j, hj, rfl, rfl, hk, hb⟩ := hrel
    have hcl := csTo_le ns us f s j
    have HKr := Lib.hid hk
    have HBr := Lib.hid hb
    have k1 := hk.cell
    have k2 := hk.lt
    clear hk hb HK1 HB1
    by_cases hlt : j < F + 1
    · have HE := Lib.hid (csTo_succ ns us f s j)
      have hle : (j : Int) ≤ (F : Int) := by omega
      have hd0 : decide ((j : Int) ≤ (F : Int)) = true := decide_eq_true hle
      generalize csTo ns us f s j = q at *
      go_wp2_with fail
      refine (HA.out _).mono ?_
      rintro e w2 ⟨rfl, rfl⟩
      go_wp2_with fail
      refine (HS.out _ HBr.out j (by have := HF1.out; omega)).mono ?_
      rintro e w3 ⟨rfl, hb⟩
      have HB3 := Lib.hid (bthen HBr.out hb)
      have HK3 := Lib.hid (HKr.out.below hb k2)
      clear hb k1 k2
      generalize slv ns us f s j = x at *
      by_cases hx : x = j
      · have hd : ((x : Int) == (j : Int)) = true := by rw [hx]; simp
        rw [if_pos hx] at HE
        clear hx
        go_wp2
        go_roundw
        case rel => exact ⟨j + 1, by omega, by go_num, by rw [HE.out]; first | go_num | rfl, HK3.out, HB3.out⟩
        case measure => simp [intOf]; omega
      · have hd : ((x : Int) == (j : Int)) = false := by rw [beq_eq_false_iff_ne]; omega
        rw [if_neg hx] at HE
        replace HE : Hid (csTo ns us f s (j + 1) = q) := Lib.hid HE.out
        clear hx
        go_wp2
        go_roundw
        case rel => exact ⟨j + 1, by omega, by go_num, by rw [HE.out], HK3.out, HB3.out⟩
        case measure => simp [intOf]; omega
    · obtain rfl : j = F + 1 := by omega
      have hd0 : decide (((F + 1 : Nat) : Int) ≤ (F : Int)) = false := decide_eq_false (by omega)
      have HE : Hid (csOut ns us f s = csTo ns us f s (F + 1)) := Lib.hid (by unfold csOut; rw [HF1.out])
      go_wp2_with fail
      refine (HA.out _).mono ?_
      rintro e w2 ⟨rfl, rfl⟩
      go_wp2
      go_ret2
      exact ⟨by rw [HE.out]; rfl, HBr.out⟩
end Go.Proofs.Ytbejakkcdbhmaaa

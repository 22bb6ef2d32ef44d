/- RoundsToTell and GeneratedWorlds of the program, at a model and its worlds. -/
import Derived.Test.Ytnolbgdbboiehaa07A
import Derived.Test.Ytnolbgdbboiehaa05R
namespace Go.Proofs.Ytnolbgdbboiehaa
open Go.RowKit
set_option linter.unusedVariables false
set_option linter.unusedSimpArgs false
def rdV (ns us ks ts : List Nat) (x y : Nat) : Int := if rdI ns us ks ts x y < 0 then 0 else rdI ns us ks ts x y
def rdC (ns us ks ts : List Nat) (x y : Nat) : Int := if rdI ns us ks ts x y < 0 then 4 else 0
set_option maxRecDepth 100000 in
theorem impl_RoundsToTell_ok (ns us ks ts : List Nat) (x y : Nat) (A0 A1 B0 B1 : Option Addr) (c0 c1 d0 d1 : Nat) (w : World) (hm : Mdl w (.slice A0 ns.length c0) (.slice A1 6 c1) ns us) (hm2 : Mdl w (.slice B0 ks.length d0) (.slice B1 6 d1) ks ts) (h1 : MdN ns us) (h2 : MdN ks ts) (hc : tcode ns.length (li ns) (li us) x ks.length (li ks) (li ts) y = 0) (hx : x < ns.length) (hy : y < ks.length) :
    Calls Try.prog 9 #[.agg #[.int .i64 ns.length, .slice A0 ns.length c0, .slice A1 6 c1], .int .i64 x, .agg #[.int .i64 ks.length, .slice B0 ks.length d0, .slice B1 6 d1], .int .i64 y] w fun e w' => e = .returned (.tuple #[.int .i64 (rdV ns us ks ts x y), .int .i64 (rdC ns us ks ts x y)]) ∧ Below w.heap.size w w' := by
  have hb0 := below_alloc' w (.cells #[.int .i64 ns.length, .slice A0 ns.length c0, .slice A1 6 c1] 28)
  have hk0 := Blk.new w 28 #[.int .i64 ns.length, .slice A0 ns.length c0, .slice A1 6 c1]
  have hb1 := below_alloc' (w.alloc (.cells #[.int .i64 ns.length, .slice A0 ns.length c0, .slice A1 6 c1] 28)) (.cells #[.int .i64 ks.length, .slice B0 ks.length d0, .slice B1 6 d1] 28)
  have hk1 : Blk _ (w.heap.size + 1) _ _ := Blk.new' (w.alloc (.cells #[.int .i64 ns.length, .slice A0 ns.length c0, .slice A1 6 c1] 28)) 28 #[.int .i64 ks.length, .slice B0 ks.length d0, .slice B1 6 d1] (by simp)
  have HB := Lib.hid (bthen hb0 hb1)
  have HK0 := Lib.hid (hk0.below hb1 hk0.lt)
  have HK1 := Lib.hid hk1
  have HC := Lib.hid (fun W (hW : Below w.heap.size w W) => hc ▸ impl_tellingCode ns.length x ks.length y _ _ _ _ (li ns) (li us) (li ks) (li ts) W (hm.a.below hW) (hm.u.below hW) (hm2.a.below hW) (hm2.u.below hW) (by rw [li_length, li_length, h1.l]; have := h1.r.1; omega) (by rw [li_length, li_length, h2.l]; have := h2.r.1; omega))
  have HNew := Lib.hid (fun W (hW : Below w.heap.size w W) => impl_newTeller ns us ks ts A0 A1 B0 B1 c0 c1 d0 d1 W (hm.below hW) (hm2.below hW) h1 h2)
  have HRo := Lib.hid (fun p L lc W hT => impl_rounds p ns us ks ts A0 A1 B0 B1 L c0 c1 d0 d1 lc x y W hT h1 h2 hx hy)
  have HV : Hid (rdV ns us ks ts x y = if rdI ns us ks ts x y < 0 then 0 else rdI ns us ks ts x y) := Lib.hid rfl
  have HCo : Hid (rdC ns us ks ts x y = if rdI ns us ks ts x y < 0 then 4 else 0) := Lib.hid rfl
  clear hb0 hb1 hk0 hk1 hm hm2 h1 h2 hc hx hy
  generalize rdV ns us ks ts x y = rv at *
  generalize rdC ns us ks ts x y = rc at *
  generalize rdI ns us ks ts x y = ri at *
  go_enter Try.func9, Try.ntmps9
  go_upto_region 1 with fail
  generalize World.alloc (w.alloc _) _ = W at *
  have k0 := HK0.out.cell
  have k1 := HK1.out.cell
  have l0 := HK0.out.lt
  have l1 := HK1.out.lt
  go_wp2_with fail
  refine (HC.out _ HB.out).mono ?_
  rintro e w1 ⟨rfl, hb⟩
  have HB1 := Lib.hid (bthen HB.out hb)
  have hk0 := HK0.out.below hb HK0.out.lt
  have hk1 := HK1.out.below hb HK1.out.lt
  clear hb k0 k1 l0 l1 HK0 HK1
  have k0 := hk0.cell
  have k1 := hk1.cell
  have l0 := hk0.lt
  have l1 := hk1.lt
  clear hk0 hk1
  go_wp2_with fail
  refine (HNew.out _ HB1.out).mono ?_
  rintro e w2 ⟨p, L, lc, rfl, hT, hb⟩
  have HT := Lib.hid hT
  have HB2 := Lib.hid (bthen HB1.out hb)
  clear hb hT k0 k1 l0 l1
  go_wp2_with fail
  refine (HRo.out p L lc _ HT.out).mono ?_
  rintro e w3 ⟨rfl, hb⟩
  have HB3 := Lib.hid (bthen HB2.out hb)
  clear hb HT
  by_cases hr : ri < 0
  · have e1 := HV.out
    have e2 := HCo.out
    rw [if_pos hr] at e1 e2
    subst e1 e2
    clear HV HCo
    go_wp2
    go_ret2
    exact ⟨rfl, HB3.out⟩
  · have e1 := HV.out
    have e2 := HCo.out
    rw [if_neg hr] at e1 e2
    subst e1 e2
    clear HV HCo
    go_wp2
    go_ret2
    exact ⟨rfl, HB3.out⟩
theorem impl_worldsCode_ok (n : Int) (va : Value) (xs : List Int) (m : Int) (w : World) (h : Sl cI w va xs) (hl : xs.length ≤ 1073741824) (hf : frOk n xs = true) (hm : mkOk n m = true) :
    Calls Try.prog 38 #[.agg #[.int .i64 n, va], .int .i64 m] w fun e w' => e = .returned (.int .i64 0) ∧ Below w.heap.size w w' := by
  obtain ⟨A, c, rfl⟩ := h.opn
  have hb0 := below_alloc' w (.cells #[.int .i64 n, .slice A xs.length c] 26)
  have HK0 := Lib.hid (Blk.new w 26 #[.int .i64 n, .slice A xs.length c])
  have HB := Lib.hid hb0
  have HI := Lib.hid (fun W (hW : Below w.heap.size w W) => hf ▸ impl_isFrame n _ xs W (h.below hW) hl)
  have HM := Lib.hid (fun W => hm ▸ impl_isMask n m W)
  clear hb0 h hf hm
  go_enter Try.func38, Try.ntmps38
  go_upto_region 1 with fail
  generalize World.alloc w _ = W at *
  have k0 := HK0.out.cell
  have l0 := HK0.out.lt
  go_wp2_with fail
  refine (HI.out _ HB.out).mono ?_
  rintro e w1 ⟨rfl, hb⟩
  have HB1 := Lib.hid (bthen HB.out hb)
  have hk0 := HK0.out.below hb HK0.out.lt
  clear hb k0 l0 HK0
  have k0 := hk0.cell
  have l0 := hk0.lt
  clear hk0
  go_wp2_with fail
  refine (HM.out _).mono ?_
  rintro e w2 ⟨rfl, rfl⟩
  clear k0 l0
  go_wp2
  go_ret
  exact ⟨rfl, HB1.out⟩
theorem img_single (lk : List Nat) {x : Nat} (hx : x < lk.length) : img lk (2 ^ x) = lk.getD x 0 := by
  apply Nat.eq_of_testBit_eq
  intro j
  unfold img
  rw [Bool.eq_iff_iff, imgTo_bit]
  constructor
  · rintro ⟨i, hi, h1, h2⟩
    rw [Nat.testBit_two_pow] at h1
    obtain rfl : x = i := by simpa using h1
    exact h2
  · intro h
    exact ⟨x, hx, by rw [Nat.testBit_two_pow]; simp, h⟩
set_option maxRecDepth 100000 in
theorem impl_GeneratedWorlds_ok (v : Value) (ns : List Nat) (x : Nat) (w : World) (h : Sl cI w v (li ns)) (hr : RelN ns) (hx : x < ns.length) (hf : frOk ns.length (li ns) = true) :
    Calls Try.prog 11 #[.agg #[.int .i64 ns.length, v], .int .i64 ((2 ^ x : Nat) : Int)] w fun e w' => e = .returned (.tuple #[.int .i64 (rch ns x : Nat), .int .i64 0]) ∧ Below w.heap.size w w' := by
  have h8 := hr.1
  have EL := li_length ns
  have hp : 2 ^ x < 2 ^ ns.length := Nat.pow_lt_pow_right (by decide) hx
  have hmk : mkOk ns.length ((2 ^ x : Nat) : Int) = true := by
    rw [mkOk_small (by omega)]
    refine inR_true (Int.natCast_nonneg _) ?_
    rw [Int.toNat_natCast, full_cast (by omega)]
    exact Int.ofNat_le.2 (by omega)
  have HWc := Lib.hid (fun W (hW : Below w.heap.size w W) => impl_worldsCode_ok ns.length v (li ns) ((2 ^ x : Nat) : Int) W (h.below hW) (by rw [EL]; omega) hf hmk)
  have HRe := Lib.hid (fun W (hW : Below w.heap.size w W) => impl_reachable v ns W (h.below hW) hr)
  have hlr : (rft (clo ns ns.length) ns.length).length = ns.length := by rw [rft_length, clo_length]
  have hlt : ∀ z ∈ rft (clo ns ns.length) ns.length, z < 2 ^ 8 := by
    intro z hz
    obtain ⟨i, hi, rfl⟩ := List.mem_iff_getElem.1 hz
    have e := rft_rch ns i (by rw [← hlr]; exact hi)
    rw [List.getD_eq_getElem?_getD, List.getElem?_eq_getElem hi] at e
    have e' : (rft (clo ns ns.length) ns.length)[i] = rch ns i := e
    rw [e']
    exact Nat.lt_of_lt_of_le (rch_lt ns hr.2 (by rw [← hlr]; exact hi)) (Nat.pow_le_pow_right (by decide) h8)
  have HIm := Lib.hid (fun W v1 (hW : Sl cI W v1 (li (rft (clo ns ns.length) ns.length))) => impl_image v1 (rft (clo ns ns.length) ns.length) (2 ^ x) W hW (by omega) hlt (by rw [hlr]; exact hp))
  rw [img_single _ (by rw [hlr]; exact hx), rft_rch ns x hx] at HIm
  obtain ⟨A, c, rfl⟩ := h.opn
  rw [EL] at HWc HRe ⊢
  have hb0 := below_alloc' w (.cells #[.int .i64 ns.length, .slice A ns.length c] 26)
  have HK0 := Lib.hid (Blk.new w 26 #[.int .i64 ns.length, .slice A ns.length c])
  have HB := Lib.hid hb0
  clear hb0 h hr hx hf hp hmk hlr hlt EL
  generalize ((2 ^ x : Nat) : Int) = P at *
  go_enter Try.func11, Try.ntmps11
  go_upto_region 1 with fail
  generalize World.alloc w _ = W at *
  have k0 := HK0.out.cell
  have l0 := HK0.out.lt
  go_wp2_with fail
  refine (HWc.out _ HB.out).mono ?_
  rintro e w1 ⟨rfl, hb⟩
  have HB1 := Lib.hid (bthen HB.out hb)
  have hk0 := HK0.out.below hb HK0.out.lt
  clear hb k0 l0 HK0
  have k0 := hk0.cell
  have l0 := hk0.lt
  clear hk0
  go_wp2_with fail
  refine (HRe.out _ HB1.out).mono ?_
  rintro e w2 ⟨u, rfl, ho, hb⟩
  have HO := Lib.hid ho.sl
  have HB2 := Lib.hid (bthen HB1.out hb)
  clear hb k0 l0 ho
  go_wp2_with fail
  refine (HIm.out _ _ HO.out).mono ?_
  rintro e w3 ⟨rfl, hb⟩
  have HB3 := Lib.hid (bthen HB2.out hb)
  clear hb
  go_wp2
  go_ret2
  exact ⟨rfl, HB3.out⟩
end Go.Proofs.Ytnolbgdbboiehaa

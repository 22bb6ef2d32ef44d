/- Contracts of chapter 7, of the reference: rounds, columns. -/
import Derived.Test.Ytgdmfihnbbgcoaa07D
import Derived.Test.Ytgdmfihnbbgcoaa07d
import Derived.Test.Ytgdmfihnbbgcoaa07h
namespace Go.Proofs.Ytgdmfihnbbgcoaa
open Go.RowKit
set_option linter.unusedVariables false
set_option linter.unusedSimpArgs false
set_option maxRecDepth 100000 in
theorem spec_l07Rounds (ns us ks ts : List Nat) (x y : Nat) (v : Value) (w : World) (h : Sl2 cI w v (bdL ns us ks ts 16)) (hx : x < ns.length) (hy : y < ks.length) (hk8 : ks.length ≤ 8) :
    Calls Try.prog 80 #[v, .int .i64 x, .int .i64 y] w fun e w' => e = .returned (.int .i64 (rdI ns us ks ts x y)) ∧ w = w' := by
  obtain ⟨L, lc, rfl⟩ := h.opn
  rw [bdL_length, show 16 + 1 = 17 from rfl] at h ⊢
  have HB := Lib.hid h
  have HR := Lib.hid (rd_fidx ns us ks ts x y)
  have H256 := Lib.hid (fun k i => bnd_256 (ns := ns) (us := us) (ks := ks) (ts := ts) hk8 k i)
  have HLn := Lib.hid (fun k => bnd_length ns us ks ts k)
  have HG := Lib.hid (fun k (hk : k < 17) => bdL_get ns us ks ts 16 k (by rw [bdL_length]; omega))
  have HLL := Lib.hid (bdL_length ns us ks ts 16)
  clear h
  go_enter Try.func80, Try.ntmps80
  go_wp2
  go_loop [7] (fun i => ∃ j : Nat, j ≤ 17 ∧ i = .int .i64 j ∧ ∀ k, k < j → ((bnd ns us ks ts k).getD x 0).testBit y = true) (fun i => 17 - (intOf i).toNat)
  case atStart => exact ⟨0, by omega, rfl, fun k hk => by omega⟩
  case round =>
    obtain ⟨j, hj, rfl, hh⟩ := hrel
    have HH := Lib.hid hh
    clear hh
    by_cases hlt : j < 17
    · have hbo := HB.out
      obtain ⟨b, o, Ai, ni, ci, e1, hbl, hc0, hs⟩ := hbo.at_ (k := j) (by rw [HLL.out]; omega)
      subst e1
      rw [HG.out j hlt] at hs
      obtain ⟨Ai', ci', e2⟩ := hs.opn
      rw [li_length, HLn.out] at e2
      obtain ⟨rfl, rfl, rfl⟩ : Ai = Ai' ∧ ni = ns.length ∧ ci = ci' := by injection e2 with a1 a2 a3; exact ⟨a1, a2, a3⟩
      obtain ⟨b2, o2, e3, hb2, hc2⟩ := li_at hs (k := x) (by rw [HLn.out]; exact hx)
      subst e3
      have eg : (bnd ns us ks ts j)[x]'(by rw [HLn.out]; exact hx) = (bnd ns us ks ts j).getD x 0 := by simp [List.getD_eq_getElem?_getD, HLn.out j, hx]
      rw [eg] at hc2
      have hq := H256.out j x
      have HBit := Lib.hid (spec_l01Bit ((bnd ns us ks ts j).getD x 0) y w (by omega) (by omega))
      obtain ⟨z, hz⟩ : ∃ z, ((bnd ns us ks ts j).getD x 0).testBit y = z := ⟨_, rfl⟩
      have HZ : Hid (∀ k, k = j → ((bnd ns us ks ts k).getD x 0).testBit y = z) := Lib.hid fun k hk => by rw [hk]; exact hz
      rw [hz] at HBit
      generalize (bnd ns us ks ts j).getD x 0 = q at *
      clear hbo hs e2 hz eg
      cases z
      · have HF : Hid (rdI ns us ks ts x y = j) := Lib.hid (by
          rw [← HR.out]
          exact fidx_some hlt (fun i hi => by rw [HH.out i hi]; rfl) (by rw [HZ.out j rfl]; rfl))
        go_wp2_with fail
        refine HBit.out.mono ?_
        rintro e w2 ⟨rfl, rfl⟩
        go_wp2
        go_ret
        exact ⟨by rw [HF.out]; rfl, rfl⟩
      · go_wp2_with fail
        refine HBit.out.mono ?_
        rintro e w2 ⟨rfl, rfl⟩
        go_wp2
        go_round
        case rel => exact ⟨j + 1, by omega, by go_num, fun k hk => (Nat.lt_or_ge k j).elim (fun h => HH.out k h) (fun h => HZ.out k (by omega))⟩
        case measure => simp [intOf]; omega
    · obtain rfl : j = 17 := by omega
      have HF : Hid (rdI ns us ks ts x y = -1) := Lib.hid (by
        rw [← HR.out]
        exact fidx_none fun i hi => by rw [HH.out i hi]; rfl)
      go_wp2
      go_ret
      exact ⟨by rw [HF.out]; rfl, rfl⟩
/-- the worlds that are linked to a world -/
def colm (lk : List Nat) (y : Nat) : Nat := msk (fun i => (lk.getD i 0).testBit y) lk.length
set_option maxRecDepth 100000 in
theorem spec_l07Column (lk : List Nat) (y : Nat) (v : Value) (w : World) (h : Sl cI w v (li lk)) (hl : lk.length ≤ 8) (hb : ∀ i, lk.getD i 0 < 256) (hy : y ≤ 60) :
    Calls Try.prog 212 #[v, .int .i64 y] w fun e w' => e = .returned (.int .i64 (colm lk y : Nat)) ∧ w = w' := by
  obtain ⟨A, c, rfl⟩ := h.opn
  rw [li_length] at h ⊢
  have H := Lib.hid h
  have HB := Lib.hid hb
  have HC : Hid (colm lk y = msk (fun i => (lk.getD i 0).testBit y) lk.length) := Lib.hid rfl
  have HS : Hid (∀ j, msk (fun i => (lk.getD i 0).testBit y) (j + 1) = msk (fun i => (lk.getD i 0).testBit y) j ||| if (lk.getD j 0).testBit y then 2 ^ j else 0) := Lib.hid fun j => rfl
  have HM : Hid (∀ j, j ≤ 8 → msk (fun i => (lk.getD i 0).testBit y) j < 256) := Lib.hid fun j hj => msk_bound _ hj (by omega)
  clear h hb
  go_enter Try.func212, Try.ntmps212
  go_wp2
  go_loop [5, 6] (fun q i => ∃ j : Nat, j ≤ lk.length ∧ i = .int .i64 j ∧ q = .int .i64 (msk (fun i => (lk.getD i 0).testBit y) j : Nat)) (fun _ i => lk.length - (intOf i).toNat)
  case atStart => exact ⟨0, Nat.zero_le _, rfl, rfl⟩
  case round =>
    obtain ⟨j, hj, rfl, rfl⟩ := hrel
    by_cases hlt : j < lk.length
    · have hh := H.out
      obtain ⟨b, o, e1, hbl, hc0⟩ := li_at hh hlt
      subst e1
      have eg : lk[j] = lk.getD j 0 := by simp [List.getD_eq_getElem?_getD, hlt]
      rw [eg] at hc0
      have hq := HB.out j
      have HBit := Lib.hid (spec_l01Bit (lk.getD j 0) y w (by omega) (by omega))
      have HSj := Lib.hid (HS.out j)
      have hm := HM.out j (by omega)
      have hor := i64_or_nat (msk (fun i => (lk.getD i 0).testBit y) j) (2 ^ j) (by omega) (two_pow_lt (by omega))
      rw [← cast_two_pow] at hor
      obtain ⟨z, hz⟩ : ∃ z, (lk.getD j 0).testBit y = z := ⟨_, rfl⟩
      rw [hz] at HBit HSj
      generalize msk (fun i => (lk.getD i 0).testBit y) j = m at *
      generalize lk.getD j 0 = q at *
      clear hh eg hz
      cases z
      · go_wp2_with fail
        refine HBit.out.mono ?_
        rintro e w2 ⟨rfl, rfl⟩
        go_wp2
        go_round
        case rel => exact ⟨j + 1, by omega, by go_num, by rw [HSj.out]; simp⟩
        case measure => simp [intOf]; omega
      · go_wp2_with fail
        refine HBit.out.mono ?_
        rintro e w2 ⟨rfl, rfl⟩
        go_wp2_with fail
        refine (spec_l01One _ _ (by omega) (by omega)).mono ?_
        rintro e w9 ⟨rfl, rfl⟩
        rw [Int.toNat_natCast]
        go_wp2
        go_round
        case rel => exact ⟨j + 1, by omega, by go_num, by rw [HSj.out, if_pos (by simp)]⟩
        case measure => simp [intOf]; omega
    · obtain rfl : j = lk.length := by omega
      go_wp2
      go_ret
      exact ⟨by rw [HC.out]; rfl, rfl⟩
theorem spec_l05World7 (n x : Int) (va : Value) (A : Option Addr) (m c : Nat) (hv : va = .slice A m c) (w : World) (hn : 0 ≤ n ∧ n ≤ 8) :
    Calls Try.prog 142 #[.agg #[.int .i64 n, va], .int .i64 x] w fun e w' => e = .returned (.bool (inR x 0 (n - 1))) ∧ Below w.heap.size w w' := by
  subst hv
  have hb0 := below_alloc' w (.cells #[.int .i64 n, .slice A m c] 60)
  have hk0 := Blk.new w 60 #[.int .i64 n, .slice A m c]
  have HB := Lib.hid hb0
  have HK0 := Lib.hid hk0
  have hw1 : IntKind.i64.wrap (n - 1) = n - 1 := IntWalk.i64_in _ ⟨by omega, by omega⟩
  have hw2 : wrap64 (n - 1) = n - 1 := IntWalk.wrap64_in _ ⟨by omega, by omega⟩
  clear hb0 hk0
  go_enter Try.func142, Try.ntmps142
  go_upto_region 1 with fail
  generalize World.alloc w _ = W at *
  have k0 : W.cell? ⟨w.heap.size, 0, none⟩ = some (.int .i64 n) := HK0.out.cell 0
  have l0 := HK0.out.lt
  go_wp2_with fail
  refine (spec_l01In _ _ _ _).mono ?_
  rintro e w1 ⟨rfl, rfl⟩
  go_wp2
  go_ret
  exact ⟨rfl, HB.out⟩
theorem spec_l07Two (n k : Int) (va vu vb vt : Value) (xs vs ys ts : List Int) (w : World) (ha : Sl cI w va xs) (hu : Sl cI w vu vs) (hb : Sl cI w vb ys) (ht : Sl cI w vt ts) (hl : xs.length + vs.length ≤ 1048576) (hl' : ys.length + ts.length ≤ 1048576) :
    Calls Try.prog 141 #[.agg #[.int .i64 n, va, vu], .agg #[.int .i64 k, vb, vt]] w fun e w' => e = .returned (.int .i64 (if mdOk n xs vs && mdOk k ys ts then 0 else 1)) ∧ Below w.heap.size w w' := by
  obtain ⟨A0, c0, rfl⟩ := ha.opn
  obtain ⟨A1, c1, rfl⟩ := hu.opn
  obtain ⟨B0, d0, rfl⟩ := hb.opn
  obtain ⟨B1, d1, rfl⟩ := ht.opn
  have hb0 := below_alloc' w (.cells #[.int .i64 n, .slice A0 xs.length c0, .slice A1 vs.length c1] 62)
  have hk0 := Blk.new w 62 #[.int .i64 n, .slice A0 xs.length c0, .slice A1 vs.length c1]
  have hb1 := below_alloc' (w.alloc (.cells #[.int .i64 n, .slice A0 xs.length c0, .slice A1 vs.length c1] 62)) (.cells #[.int .i64 k, .slice B0 ys.length d0, .slice B1 ts.length d1] 62)
  have hk1 : Blk _ (w.heap.size + 1) _ _ := Blk.new' (w.alloc (.cells #[.int .i64 n, .slice A0 xs.length c0, .slice A1 vs.length c1] 62)) 62 #[.int .i64 k, .slice B0 ys.length d0, .slice B1 ts.length d1] (by simp)
  have hbb := bthen hb0 hb1
  have HB := Lib.hid hbb
  have HK0 := Lib.hid (hk0.below hb1 hk0.lt)
  have HK1 := Lib.hid hk1
  have M1 := Lib.hid (fun W (hW : Below w.heap.size w W) => spec_l06Is n _ _ xs vs W (ha.below hW) (hu.below hW) (by omega) (by omega))
  have M2 := Lib.hid (fun W (hW : Below w.heap.size w W) => spec_l06Is k _ _ ys ts W (hb.below hW) (ht.below hW) (by omega) (by omega))
  clear hb0 hb1 hk0 hk1 hbb ha hu hb ht
  generalize mdOk n xs vs = q1 at *
  generalize mdOk k ys ts = q2 at *
  go_enter Try.func141, Try.ntmps141
  go_upto_region 1 with fail
  generalize World.alloc (w.alloc _) _ = W at *
  have k0 := HK0.out.cell
  have k1 := HK1.out.cell
  have l0 := HK0.out.lt
  have l1 := HK1.out.lt
  go_wp2_with fail
  refine (M1.out _ HB.out).mono ?_
  rintro e w1 ⟨rfl, hb⟩
  have HB1 := Lib.hid (bthen HB.out hb)
  have HK3 := Lib.hid (HK1.out.below hb HK1.out.lt)
  clear hb k0 k1 l0 l1
  cases q1
  · go_wp2
    go_ret
    exact ⟨rfl, HB1.out⟩
  have k1 := HK3.out.cell
  have l1 := HK3.out.lt
  go_wp2_with fail
  refine (M2.out _ HB1.out).mono ?_
  rintro e w2 ⟨rfl, hb⟩
  have HB2 := Lib.hid (bthen HB1.out hb)
  clear hb k1 l1
  cases q2
  all_goals
    go_wp2
    go_ret
    exact ⟨rfl, HB2.out⟩
set_option maxRecDepth 100000 in
theorem spec_l07Places (n x k y : Int) (va vu vb vt : Value) (xs vs ys ts : List Int) (w : World) (ha : Sl cI w va xs) (hu : Sl cI w vu vs) (hb : Sl cI w vb ys) (ht : Sl cI w vt ts) (hl : xs.length + vs.length ≤ 1048576) (hl' : ys.length + ts.length ≤ 1048576) :
    Calls Try.prog 78 #[.agg #[.int .i64 n, va, vu], .int .i64 x, .agg #[.int .i64 k, vb, vt], .int .i64 y] w fun e w' => e = .returned (.int .i64 (tcode n xs vs x k ys ts y)) ∧ Below w.heap.size w w' := by
  obtain ⟨A0, c0, rfl⟩ := ha.opn
  obtain ⟨A1, c1, rfl⟩ := hu.opn
  obtain ⟨B0, d0, rfl⟩ := hb.opn
  obtain ⟨B1, d1, rfl⟩ := ht.opn
  have hb0 := below_alloc' w (.cells #[.int .i64 n, .slice A0 xs.length c0, .slice A1 vs.length c1] 62)
  have hk0 := Blk.new w 62 #[.int .i64 n, .slice A0 xs.length c0, .slice A1 vs.length c1]
  have hb1 := below_alloc' (w.alloc (.cells #[.int .i64 n, .slice A0 xs.length c0, .slice A1 vs.length c1] 62)) (.cells #[.int .i64 k, .slice B0 ys.length d0, .slice B1 ts.length d1] 62)
  have hk1 : Blk _ (w.heap.size + 1) _ _ := Blk.new' (w.alloc (.cells #[.int .i64 n, .slice A0 xs.length c0, .slice A1 vs.length c1] 62)) 62 #[.int .i64 k, .slice B0 ys.length d0, .slice B1 ts.length d1] (by simp)
  have hbb := bthen hb0 hb1
  have HB := Lib.hid hbb
  have HK0 := Lib.hid (hk0.below hb1 hk0.lt)
  have HK1 := Lib.hid hk1
  have M1 := Lib.hid (fun W (hW : Below w.heap.size w W) => spec_l07Two n k _ _ _ _ xs vs ys ts W (ha.below hW) (hu.below hW) (hb.below hW) (ht.below hW) hl hl')
  have HT : Hid (tcode n xs vs x k ys ts y = if mdOk n xs vs && mdOk k ys ts then (if inR x 0 (n - 1) && inR y 0 (k - 1) then 0 else 2) else 1) := Lib.hid rfl
  have HN : Hid ((mdOk n xs vs && mdOk k ys ts) = true → (0 ≤ n ∧ n ≤ 8) ∧ 0 ≤ k ∧ k ≤ 8) := Lib.hid fun h => by
    rw [Bool.and_eq_true] at h
    obtain ⟨ns, us, -, -, rfl, hr, -⟩ := mdOk_iff h.1
    obtain ⟨ns2, us2, -, -, rfl, hr2, -⟩ := mdOk_iff h.2
    have := hr.1
    have := hr2.1
    omega
  clear hb0 hb1 hk0 hk1 hbb ha hu hb ht
  generalize (mdOk n xs vs && mdOk k ys ts) = q1 at *
  go_enter Try.func78, Try.ntmps78
  go_upto_region 1 with fail
  generalize World.alloc (w.alloc _) _ = W at *
  have k0 := HK0.out.cell
  have k1 := HK1.out.cell
  have l0 := HK0.out.lt
  have l1 := HK1.out.lt
  go_wp2_with fail
  refine (M1.out _ HB.out).mono ?_
  rintro e w1 ⟨rfl, hb⟩
  have HB2 := Lib.hid (bthen HB.out hb)
  have HK4 := Lib.hid (HK0.out.below hb HK0.out.lt)
  have HK5 := Lib.hid (HK1.out.below hb HK1.out.lt)
  clear hb k0 k1 l0 l1
  cases q1
  · go_wp2
    go_ret
    exact ⟨by rw [HT.out]; rfl, HB2.out⟩
  have k0 := HK4.out.cell
  have k1 := HK5.out.cell
  have l0 := HK4.out.lt
  have l1 := HK5.out.lt
  have hnn := HN.out (by trivial)
  have W1 := Lib.hid (fun W => spec_l05World7 n x _ A0 xs.length c0 rfl W hnn.1)
  have W2 := Lib.hid (fun W => spec_l05World7 k y _ B0 ys.length d0 rfl W hnn.2)
  have HT2 : Hid (tcode n xs vs x k ys ts y = if inR x 0 (n - 1) && inR y 0 (k - 1) then 0 else 2) := Lib.hid (by rw [HT.out]; rfl)
  obtain ⟨q1, hq1⟩ : ∃ q, inR x 0 (n - 1) = q := ⟨_, rfl⟩
  obtain ⟨q2, hq2⟩ : ∃ q, inR y 0 (k - 1) = q := ⟨_, rfl⟩
  rw [hq1] at W1 HT2
  rw [hq2] at W2 HT2
  clear hq1 hq2 HT
  go_wp2_with fail
  refine (W1.out _).mono ?_
  rintro e w3 ⟨rfl, hb⟩
  have HB3 := Lib.hid (bthen HB2.out hb)
  have HK6 := Lib.hid (HK5.out.below hb HK5.out.lt)
  clear hb k0 k1 l0 l1
  cases q1
  · go_wp2
    go_ret
    exact ⟨by rw [HT2.out]; rfl, HB3.out⟩
  have k1 := HK6.out.cell
  have l1 := HK6.out.lt
  go_wp2_with fail
  refine (W2.out _).mono ?_
  rintro e w4 ⟨rfl, hb⟩
  have HB4 := Lib.hid (bthen HB3.out hb)
  clear hb k1 l1
  cases q2
  all_goals
    go_wp2
    go_ret
    exact ⟨by rw [HT2.out]; rfl, HB4.out⟩
end Go.Proofs.Ytgdmfihnbbgcoaa

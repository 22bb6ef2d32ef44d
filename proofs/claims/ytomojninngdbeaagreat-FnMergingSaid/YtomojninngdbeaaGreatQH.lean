/- Contract of quotientModel of the program, with the places of its three lists. Written by gen24H.py. -/
import Derived.Test.YtomojninngdbeaaGreatQU
namespace Go.Proofs.YtomojninngdbeaaGreat
open Go.RowKit
set_option linter.unusedVariables false
set_option linter.unusedSimpArgs false
set_option maxHeartbeats 2000000 in
set_option maxRecDepth 100000 in
theorem impl_quotientModelH (ns us : List Nat) (A0 A1 : Option Addr) (c0 c1 : Nat) (w : World) (hm : Mdl w (.slice A0 ns.length c0) (.slice A1 6 c1) ns us) (h1 : MdN ns us) :
    Calls Tryz.prog 19 #[.agg #[.int .i64 ns.length, .slice A0 ns.length c0, .slice A1 6 c1]] w
      fun e w' => ∃ B1 d1 B2 d2 B3 d3 H0 H, e = .returned (.tuple #[.agg #[.int .i64 (qn ns us : Nat), .slice B1 (qn ns us) d1, .slice B2 6 d2], .slice B3 ns.length d3]) ∧ w.heap.size ≤ H0 ∧ H0 ≤ H ∧ H ≤ w'.heap.size ∧
        Ob cI 2 H0 H w' (.slice B1 (qn ns us) d1) (li (qrl (qcl ns us) ns (qn ns us) ns.length)) ∧ Ob cI 2 H w'.heap.size w' (.slice B2 6 d2) (li (qvl (qcl ns us) us)) ∧ Ob cI 2 w.heap.size H0 w' (.slice B3 ns.length d3) (li (qcl ns us)) ∧ Below w.heap.size w w' := by
  have h8 := h1.r.1
  have hb0 := below_alloc' w (.cells #[.int .i64 ns.length, .slice A0 ns.length c0, .slice A1 6 c1] 50)
  have hk0 := Blk.new w 50 #[.int .i64 ns.length, .slice A0 ns.length c0, .slice A1 6 c1]
  have hb1 := below_alloc' (w.alloc (.cells #[.int .i64 ns.length, .slice A0 ns.length c0, .slice A1 6 c1] 50)) (.cells #[.int .i64 0, .slice none 0 0, .slice none 0 0] 50)
  have hk1 : Blk _ (w.heap.size + 1) _ _ := Blk.new' (w.alloc (.cells #[.int .i64 ns.length, .slice A0 ns.length c0, .slice A1 6 c1] 50)) 50 #[.int .i64 0, .slice none 0 0, .slice none 0 0] (by simp)
  have HB := Lib.hid (bthen hb0 hb1)
  have HK0 := Lib.hid (hk0.below hb1 hk0.lt)
  have HK1 := Lib.hid hk1
  have HC := Lib.hid (fun W (hW : Below w.heap.size w W) => impl_bisimilar ns us ns us A0 A1 A0 A1 c0 c1 c0 c1 W (hm.below hW) (hm.below hW) h1 h1)
  have HD := Lib.hid (fun v W (hW : Sl cI W v (li (bnd ns us ns us 16))) => impl_classesOf v (bnd ns us ns us 16) W hW (fun i => Nat.lt_of_lt_of_le (getD_lt (bnd_lt ns us ns us 16) i) (two_pow_256 h8)) (by rw [bnd_length]; omega))
  have HE : Hid (li (dvd (fun y => (bnd ns us ns us 16).getD y 0) (bnd ns us ns us 16).length).1 = li (qcl ns us)) := Lib.hid (by rw [bnd_length]; rfl)
  have LC := Lib.hid (show (li (qcl ns us)).length = ns.length by rw [li_length, qcl_length])
  have HQ := Lib.hid (fun v W (hW : Below w.heap.size w W) (hc : Sl cI W v (li (qcl ns us))) => impl_quotientRelation _ v ns (qcl ns us) (qn ns us) rfl W (hm.a.below hW) hc h1.r (qcl_length ns us) (qcl_lt ns us h8))
  have HF := Lib.hid (fun A c W (hW : Sl cI W (.slice A (qn ns us) c) (li (qrl (qcl ns us) ns (qn ns us) ns.length))) => impl_frameOf (.slice A (qn ns us) c) _ W hW)
  have LQ := Lib.hid (show (li (qrl (qcl ns us) ns (qn ns us) ns.length)).length = qn ns us by rw [li_length, qrl_length])
  have HM := Lib.hid (fun (j : Nat) v W (hW : Sl cI W v (li (qcl ns us))) => impl_mapMask v (qcl ns us) (us.getD j 0) W hW (by rw [qcl_length]; exact h8) (qcl_lt ns us h8) (by rw [qcl_length]; exact getD_lt h1.b j))
  have HU := Lib.hid hm.u
  have LU6 := Lib.hid (show (li us).length = 6 by rw [li_length, h1.l])
  have HT := Lib.hid (fun (j : Nat) (hj : j < 6) => qvl_take (qcl ns us) us (j := j) (by rw [h1.l]; exact hj))
  have HT0 := Lib.hid (show (qvl (qcl ns us) us).take 6 = qvl (qcl ns us) us from List.take_of_length_le (by rw [qvl_length, h1.l]; exact Nat.le_refl _))
  have HTL := Lib.hid (fun (j : Nat) (hj : j ≤ 6) => show (li ((qvl (qcl ns us) us).take j)).length = j by rw [li_length, List.length_take, qvl_length, h1.l]; omega)
  rw [LQ.out] at HF
  have hn8 := qn_le ns us h8
  clear hb0 hb1 hk0 hk1 hm h1
  generalize qn ns us = n at *
  generalize qrl (qcl ns us) ns n ns.length = qr at *
  go_enter Tryz.func19, Tryz.ntmps19
  go_upto_region 1 with fail
  generalize World.alloc (w.alloc _) _ = W at *
  have k0 := HK0.out.cell
  have l0 := HK0.out.lt
  go_wp2_with fail
  refine (HC.out _ HB.out).mono ?_
  rintro e w1 ⟨A, c, rfl, hg, hb⟩
  have HG := Lib.hid hg
  have HB1 := Lib.hid (bthen HB.out hb)
  have HKa := Lib.hid (HK0.out.below hb l0)
  have HKb := Lib.hid (HK1.out.below hb HK1.out.lt)
  clear hg hb k0 l0 HK0 HK1 HB
  go_wp2_with fail
  refine (HD.out _ _ HG.out).mono ?_
  rintro e w2 ⟨u, rfl, ho, hb⟩
  rw [HE.out] at ho
  obtain ⟨Au, cu, rfl⟩ := ho.opn
  have HCL := Lib.hid (show Ow cI 2 (w.heap.size + 2) w2 (.slice Au (li (qcl ns us)).length cu) (li (qcl ns us)) from ho.mono HKb.out.lt)
  have HB2 := Lib.hid (bthen HB1.out hb)
  have HKc := Lib.hid (HKa.out.below hb HKa.out.lt)
  have HKd := Lib.hid (HKb.out.below hb HKb.out.lt)
  clear ho hb HKa HKb HG HB1
  rw [LC.out] at HCL ⊢
  have H2b := Lib.hid (show ∀ g, (Value.slice Au ns.length cu).ownBlock = some g → g < w2.heap.size from fun g hg => (HCL.out.block g hg).2)
  have H02 := Lib.hid HB2.out.size
  have H12 := Lib.hid HKd.out.lt
  have k2 := HKc.out.cell
  have l2 := HKc.out.lt
  go_wp2_with fail
  refine (HQ.out _ _ HB2.out HCL.out.sl).mono ?_
  rintro e w3 ⟨Aq, cq, rfl, ho, hb⟩
  have HO := Lib.hid ho
  have H23 := Lib.hid hb.size
  have HB3 := Lib.hid (bthen HB2.out hb)
  have HKe := Lib.hid (HKc.out.below hb HKc.out.lt)
  have HKf := Lib.hid (HKd.out.below hb HKd.out.lt)
  have HCM := Lib.hid (HCL.out.below hb)
  clear ho hb HKc HKd HCL k2 l2
  go_wp2_with fail
  refine (HF.out _ _ _ HO.out.sl).mono ?_
  rintro e w4 ⟨rfl, hb⟩
  have H34 := Lib.hid hb.size
  have HO4 := Lib.hid (HO.out.below hb)
  have HB4 := Lib.hid (bthen HB3.out hb)
  have HKg := Lib.hid (HKe.out.below hb HKe.out.lt)
  have HKh := Lib.hid (HKf.out.below hb HKf.out.lt)
  have HCN := Lib.hid (HCM.out.below hb)
  clear hb HKe HKf HCM HO HB2 HB3
  have k4 := HKg.out.cell
  have l4 := HKg.out.lt
  go_wp2
  have HP : Hid (Blk (w4.alloc (.cells #[.int .i64 n, .slice Aq n cq, .slice none 0 0] 50)) w4.heap.size 50 #[.int .i64 n, .slice Aq n cq, .slice none 0 0]) := Lib.hid (Blk.new _ _ _)
  have HV := Lib.hid (below_alloc' w4 (.cells #[.int .i64 n, .slice Aq n cq, .slice none 0 0] 50))
  have HVs : Hid ((w4.alloc (.cells #[.int .i64 n, .slice Aq n cq, .slice none 0 0] 50)).heap.size = w4.heap.size + 1) := Lib.hid (by simp)
  generalize World.alloc w4 _ = V at *
  clear k4 l4
  go_loopw [22] (fun i wr => ∃ j : Nat, j ≤ 6 ∧ i = .int .i64 j ∧ Below w4.heap.size w4 wr ∧ w4.heap.size + 1 ≤ wr.heap.size ∧ ∃ v', Blk wr w4.heap.size 50 #[.int .i64 n, .slice Aq n cq, v'] ∧ Ow cI 2 (w4.heap.size + 1) wr v' (li ((qvl (qcl ns us) us).take j))) (fun i _ => 6 - (intOf i).toNat)
  case atStart => exact ⟨0, Nat.zero_le _, rfl, HV.out, by rw [HVs.out]; exact Nat.le_refl _, _, HP.out, Ow.nil _ _⟩
  case round =>
    obtain ⟨j, hj, rfl, hb, hz, v', hp, ho⟩ := hrel
    obtain ⟨Av, cv, rfl⟩ := ho.opn
    have hl := HTL.out j hj
    have HO := Lib.hid ho
    have HPx := Lib.hid hp
    have HBx := Lib.hid hb
    have hsz := hb.size
    rw [hl] at HO HPx
    have HL := Lib.hid hl
    clear ho hp hl
    by_cases hlt : j < 6
    · obtain ⟨b, o, rfl, hbl, hc0⟩ := (show Sl cI w (.slice A1 (li us).length c1) (li us) by rw [LU6.out]; exact HU.out).below (bthen HB4.out hb) |>.atI (k := j) (by rw [LU6.out]; exact hlt)
      rw [li_get] at hc0
      have hm := HM.out j
      have HS := Lib.hid (HT.out j hlt)
      obtain ⟨q, hq⟩ : ∃ q, img (pw (qcl ns us)) (us.getD j 0) = q := ⟨_, rfl⟩
      obtain ⟨m, hmm⟩ : ∃ m, us.getD j 0 = m := ⟨_, rfl⟩
      rw [hq] at hm HS
      rw [hmm] at hc0 hm
      have HMj := Lib.hid hm
      have HCr := Lib.hid (HCN.out.below hb)
      obtain ⟨xs, hxs⟩ : ∃ xs, li ((qvl (qcl ns us) us).take j) = xs := ⟨_, rfl⟩
      have HXE : Hid (li ((qvl (qcl ns us) us).take (j + 1)) = xs ++ [(q : Int)]) := Lib.hid (by rw [HS.out, li_append, hxs]; rfl)
      rw [hxs] at HO HL
      have hxl : xs.length ≤ 1000 := by rw [HL.out]; omega
      have hl9 : (xs ++ [(q : Int)]).length = j + 1 := by simp [HL.out]
      have HNR := Lib.hid (HO.out.apart (g := w4.heap.size) (.inl (by omega)))
      have kc := HPx.out.cell
      have kf := HPx.out.frozen
      have kl := HPx.out.lt
      clear hb hm hq hmm hxs HS
      go_wp2
      go_region_law (first | (refine step_one (K := cI) _ ty_int64 rfl _ _ rfl (B := w4.heap.size + 1) (xs := xs) (by simp [Act.eval, Act.put]; done) hO3 (q : Int) rfl (by simp [Act.eval, Act.put]; done) (by omega) hz3 ?_; intro v1 w5 ho1 hg1 hb1 hat1; obtain ⟨g9, c9, hv9, hB9, -⟩ := ho1.form (by simp); rw [hl9] at hv9; subst hv9; have hk9 := (hk3.alloc _).grown hg1 HNR.out; have kc9 := hk9.cell; have kf9 := hk9.frozen; have kl9 := hk9.lt) | (go_simp; go_at_call 47; refine (HMj.out _ _ (HCr.out.sl.below (below_drewN (Below.refl _ _) 1))).mono ?_; rintro e w3 ⟨rfl, hb⟩; have hO3 := (HO.out.below (below_drewN (Below.refl _ _) 1)).below hb; have hb3 := (below_drewN HBx.out 1).trans (hb.mono (below_drewN HBx.out 1).size); have hk3 := HPx.out.below ((below_drewN (Below.refl _ _) 1).trans hb) kl; have rc3 := hk3.cell; have rl3 := hk3.lt; have hz3 := Nat.le_trans hz hb.size))
      all_goals
        have Y1 := Lib.hid (hk9.set_ 2 (.slice (some ⟨g9, 0, none⟩) (j + 1) c9))
        have Y3 := Lib.hid (ho1.setBelow (p := ⟨w4.heap.size, 2, none⟩) (Nat.lt_succ_self _) (.slice (some ⟨g9, 0, none⟩) (j + 1) c9))
        have Y4 := Lib.hid ((hb3.trans (hb1.mono (by omega))).setCell (p := ⟨w4.heap.size, 2, none⟩) (Nat.le_refl _) (.slice (some ⟨g9, 0, none⟩) (j + 1) c9))
        have Y5 := Lib.hid (Nat.le_trans hz3 hb1.size)
        clear ho1 hg1 hb1 hat1 hk9 kc9 kf9 hO3 hb3 hk3 rc3 kc kf
        go_wp2
        go_roundw
        case rel => exact ⟨j + 1, by omega, by go_num, Y4.out, by simp only [World.setCell, Array.size_modify]; exact Y5.out, _, Y1.out, by rw [HXE.out]; exact Y3.out⟩
        case measure => simp [intOf]; omega
    · obtain rfl : j = 6 := by omega
      rw [HT0.out] at HO
      have kc := HPx.out.cell
      have kl := HPx.out.lt
      have hr1 := HKh.out.below hb HKh.out.lt
      have rc := hr1.cell
      have rf := hr1.frozen
      have rl := hr1.lt
      have hle := HB4.out.size
      have Z1 : Hid (Ow cI 2 w2.heap.size wr (.slice Aq n cq) (li qr)) := Lib.hid (HO4.out.below hb)
      have Z1b : Hid (∀ g, (Value.slice Aq n cq).ownBlock = some g → g < w4.heap.size + 1) := Lib.hid (fun g hg => by have := (HO4.out.block g hg).2; omega)
      have Z2 := Lib.hid HO.out
      have Z3 := Lib.hid (HCN.out.below hb)
      have Z4 := Lib.hid (bthen HB4.out hb)
      have Z5 := Lib.hid hz
      have Z6 := Lib.hid hle
      have Z7 := Lib.hid (show w.heap.size + 1 < w4.heap.size + 1 by have := HKh.out.lt; omega)
      have Z8 : Hid (∀ (W : World) (u1 u2 u3 : Value), (((W.setCell ⟨w.heap.size + 1, 0, none⟩ u1).setCell ⟨w.heap.size + 1, 1, none⟩ u2).setCell ⟨w.heap.size + 1, 2, none⟩ u3).heap.size = W.heap.size) := Lib.hid (fun W u1 u2 u3 => by simp [World.setCell])
      clear hb hr1 HO HU LU6 HM HT HTL
      go_wp2
      refine bodyPost_ret (v := .tuple #[.agg #[.int .i64 n, .slice Aq n cq, .slice Av 6 cv], .slice Au ns.length cu]) (by simp [results, Tryz.results19, go_sem, rc, rf, rl]) rfl ⟨_, _, _, _, _, _, w2.heap.size, w4.heap.size + 1, rfl, H02.out, by have := H23.out; have := H34.out; omega, ?_, ⟨?_, ?_⟩, ⟨?_, ?_⟩, ⟨?_, ?_⟩, ?_⟩
      · rw [Z8.out]; exact Z5.out
      · exact ((Z1.out.setBelow H12.out _).setBelow H12.out _).setBelow H12.out _
      · exact Z1b.out
      · exact ((Z2.out.setBelow Z7.out _).setBelow Z7.out _).setBelow Z7.out _
      · rw [Z8.out]; intro g hg; exact (Z2.out.block g hg).2
      · exact (((Z3.out.setBelow (Nat.lt_succ_self _) _).setBelow (Nat.lt_succ_self _) _).setBelow (Nat.lt_succ_self _) _).mono (by omega)
      · exact H2b.out
      · exact ((Z4.out.setCell (Nat.le_succ _) _).setCell (Nat.le_succ _) _).setCell (Nat.le_succ _) _
end Go.Proofs.YtomojninngdbeaaGreat

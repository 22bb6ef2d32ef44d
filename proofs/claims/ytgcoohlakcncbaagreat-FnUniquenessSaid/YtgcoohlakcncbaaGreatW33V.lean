/- The walk of FnUniqueness, written by program (gen33V.py). -/
import Derived.Test.YtgcoohlakcncbaaGreatJG
import Derived.Test.YtgcoohlakcncbaaGreatJF
import Derived.Test.YtgcoohlakcncbaaGreatLK
import Derived.Test.YtgcoohlakcncbaaGreatJH
namespace Go.Proofs.YtgcoohlakcncbaaGreat
open Go.RowKit
set_option linter.unusedVariables false
set_option linter.unusedSimpArgs false
theorem sumL_gd : ∀ {O : List Fm}, gdF O → sumL (O.map enc) ≤ 40 * O.length
  | [], _ => by simp [sumL]
  | f :: O, h => by
    have h1 := (h f List.mem_cons_self).2
    have h2 := sumL_gd (O := O) fun g hg => h g (List.mem_cons_of_mem _ hg)
    simp only [List.map_cons, sumL, List.length_cons]
    omega
theorem tot_gd {O : List Fm} (h : gdF O) (hl : O.length ≤ 1000) : tot (O.map enc) ≤ 1048576 := by
  have h1 := sumL_gd h
  show (O.map enc).length + sumL (O.map enc) ≤ 1048576
  rw [List.length_map]
  omega
set_option maxHeartbeats 4000000 in
set_option maxRecDepth 100000 in
theorem final_Uniqueness (v : Value) (xs : List (Fin 256)) (w : World) (h : Sl cY w v xs) :
    Calls Tryz.prog 4 #[v] w fun e w' => e = .returned (.bool true) ∧ Below w.heap.size w w' := by
  have A : Hid (Below w.heap.size w w) := Lib.hid (Below.refl _ _)
  go_enter Tryz.func4, Tryz.ntmps4
  replace h := Lib.hid h
  by_cases hbig : 4096 < xs.length
  · have HC := Lib.hid (decide_eq_true hbig ▸ laws_big v xs w h.out)
    clear hbig
    go_wp2_with fail
    refine HC.out.mono ?_
    rintro e w1 ⟨rfl, rfl⟩
    go_wp2
    go_ret
    exact ⟨rfl, A.out⟩
  · have HC := Lib.hid (decide_eq_false hbig ▸ laws_big v xs w h.out)
    have HD := Lib.hid (fun W hW => spec_DrawUniquenessFormula v xs W hW (by omega))
    have HD2 := Lib.hid (fun W hW => spec_DrawOuterParts v xs W hW (by omega))
    clear hbig
    go_wp2_with fail
    refine HC.out.mono ?_
    rintro e w1 ⟨rfl, rfl⟩
    clear HC
    go_wp2_with fail
    refine (HD.out _ h.out).mono ?_
    rintro e w1 ⟨u1, L, x, y, rfl, hL, s1, hb⟩
    replace h := Lib.hid (h.out.below hb)
    replace A := Lib.hid (bthen A.out hb)
    clear hb
    obtain ⟨A1, c1, rfl⟩ := s1.opn
    have S1 := Lib.hid s1
    clear s1 HD
    obtain ⟨R, k, hR, hI, hS, hK⟩ := uq_both L x y (by omega)
    have HI := Lib.hid hI
    have HS := Lib.hid hS
    have HK := Lib.hid hK
    clear hI hS hK
    have HLF := Lib.hid (fun v u W a b => laws_likeFormula5 v u R W a b (by omega))
    go_wp2_with fail
    refine (HI.out _ _ S1.out).mono ?_
    rintro e w2 ⟨A2, c2, rfl, s2, hb⟩
    replace h := Lib.hid (h.out.below hb)
    replace S1 := Lib.hid (S1.out.below hb)
    replace A := Lib.hid (bthen A.out hb)
    clear hb
    have S2 := Lib.hid s2
    clear s2
    go_wp2_with fail
    refine (HS.out _ _ S1.out).mono ?_
    rintro e w3 ⟨A3, c3, rfl, s3, hb⟩
    replace h := Lib.hid (h.out.below hb)
    replace S1 := Lib.hid (S1.out.below hb)
    replace S2 := Lib.hid (S2.out.below hb)
    replace A := Lib.hid (bthen A.out hb)
    clear hb
    have S3 := Lib.hid s3
    clear s3
    go_wp2_with fail
    refine (HLF.out _ _ _ S2.out S3.out).mono ?_
    rintro e w4 ⟨rfl, hb⟩
    replace h := Lib.hid (h.out.below hb)
    replace S1 := Lib.hid (S1.out.below hb)
    replace S2 := Lib.hid (S2.out.below hb)
    replace S3 := Lib.hid (S3.out.below hb)
    replace A := Lib.hid (bthen A.out hb)
    clear hb
    clear HI HS HLF S2
    cases hk : (k == 0)
    · clear HK S1 S3 hR hL
      go_wp2_with fail
      refine (HD2.out _ h.out).mono ?_
      rintro e w5 ⟨u2, L2, x2, rfl, hL2, s4, hb⟩
      replace h := Lib.hid (h.out.below hb)
      replace A := Lib.hid (bthen A.out hb)
      clear hb
      obtain ⟨A4, c4, rfl⟩ := s4.opn
      have S4 := Lib.hid s4
      clear s4
      obtain ⟨R2, k2, hR2, hI2, hS2, hK2⟩ := op_both L2 x2 (by omega)
      have HI2 := Lib.hid hI2
      have HS2 := Lib.hid hS2
      have HK2 := Lib.hid hK2
      clear hI2 hS2 hK2
      have HLT := Lib.hid (fun v u W a b => laws_likeTexts5 v u R2 W a b (by omega))
      go_wp2_with fail
      refine (HI2.out _ _ S4.out).mono ?_
      rintro e w6 ⟨A5, c5, rfl, s5, hb⟩
      replace S4 := Lib.hid (S4.out.below hb)
      replace A := Lib.hid (bthen A.out hb)
      clear hb
      have S5 := Lib.hid s5
      clear s5
      go_wp2_with fail
      refine (HS2.out _ _ S4.out).mono ?_
      rintro e w7 ⟨A6, c6, rfl, s6, hb⟩
      replace S4 := Lib.hid (S4.out.below hb)
      replace S5 := Lib.hid (S5.out.below hb)
      replace A := Lib.hid (bthen A.out hb)
      clear hb
      have S6 := Lib.hid s6
      clear s6
      go_wp2_with fail
      refine (HLT.out _ _ _ S5.out S6.out).mono ?_
      rintro e w8 ⟨rfl, hb⟩
      replace S4 := Lib.hid (S4.out.below hb)
      replace S5 := Lib.hid (S5.out.below hb)
      replace S6 := Lib.hid (S6.out.below hb)
      replace A := Lib.hid (bthen A.out hb)
      clear hb
      clear HI2 HS2 HLT S5
      cases hk2 : (k2 == 0)
      · clear HK2
        go_wp2
        go_ret
        exact ⟨rfl, A.out⟩
      · obtain rfl : k2 = 0 := by simpa using hk2
        clear hk2
        obtain ⟨f2, n2, hok2, rfl, hl2, rfl, hn2, rfl⟩ := HK2.out rfl
        clear HK2 hL2
        have hgd := outs_gd (s := n2) hok2 hl2
        have hop := (outs_props (s := n2) hok2 hl2).1
        have HRO := Lib.hid (fun v u W a b c => impl_ReplaceOuter_self v u f2 n2 W a b hl2 hok2 hn2 c)
        have HLF := Lib.hid (fun v u W a b => laws_likeFormula5 v u (enc f2) W a b (by omega))
        have HTot : Hid (tot ((outs n2 f2 []).map enc) ≤ 1048576) := Lib.hid (tot_gd hgd hop)
        have HG := Lib.hid hgd
        clear hgd hl2 hok2 hn2 hR2
        rw [List.length_map] at *
        generalize outs n2 f2 [] = O at *
        have HTL : Hid (∀ j, j ≤ O.length → (O.take j).length = j) := Lib.hid fun j hj => by rw [List.length_take]; omega
        have HTA : Hid (O.take O.length = O) := Lib.hid (List.take_length)
        have HT0 : Hid (O.take 0 = []) := Lib.hid (by simp)
        go_wp2
        go_loopw [22, 23] (fun ov i wr => ∃ j : Nat, j ≤ O.length ∧ i = .int .i64 j ∧ Grw fmS w8.heap.size wr ov (O.take j) ∧ Below w8.heap.size w8 wr) (fun _ i _ => O.length - (intOf i).toNat)
        case atStart => exact ⟨0, Nat.zero_le _, rfl, by rw [HT0.out]; exact Grw.lit0 _, below_alloc' _ _⟩
        case round =>
          obtain ⟨j, hj, rfl, ho, hb⟩ := hrel
          obtain ⟨w31, hw1⟩ : ∃ W, W = wr := ⟨_, rfl⟩
          subst hw1
          obtain ⟨Ao, co, rfl⟩ := ho.opn
          rw [HTL.out j hj] at ho ⊢
          have G := Lib.hid ho
          have HB := Lib.hid hb
          clear ho
          by_cases hlt : j < O.length
          · obtain ⟨b, o, rfl, hbl, hc⟩ := (S6.out.below hb).cell (k := j) (by rw [List.length_map]; exact hlt)
            have hc0 : w31.cell? ⟨b, o + j, none⟩ = some (.string (txt O[j])) := by
              have := hc 0 (.string (txt O[j])) (by simp [cS])
              simpa [cS] using this
            have hgj := HG.out O[j] (List.getElem_mem hlt)
            have HP := Lib.hid (fun W => laws_read5O O[j] W hgj.1 hgj.2)
            have HT : Hid (O.take (j + 1) = O.take j ++ [O[j]]) := Lib.hid (List.take_succ_eq_append_getElem hlt)
            have i1 : (j : Int) < (O.length : Int) := by omega
            have HL1 := Lib.hid (HTL.out j hj)
            clear hc hb hgj
            generalize O[j] = q at *
            go_wp2_with fail
            refine (HP.out _).mono ?_
            rintro e w32 ⟨A2, c2, rfl, ho2, hb2⟩
            have O2 := G.out.below hb2
            obtain ⟨hs, g1, g2, g3⟩ := O2.push (S := fmS) (a := ⟨A2, (enc q).length, c2⟩) (b := q) ho2.sl (fun k e => by
              have := ho2.block k e
              refine ⟨by have := HB.out.size; omega, this.2, fun e2 => ?_⟩
              have := (G.out.blk k e2).2
              omega)
            have G1 := Lib.hid g1
            have G2 : Hid (hs.length = j) := Lib.hid (by rw [g2, HL1.out])
            have G3 := Lib.hid g3
            have B2 := Lib.hid (HB.out.trans (hb2.mono HB.out.size))
            clear hc0 hbl ho2 hb2 O2 g1 g2 g3
            go_wp2_with (at_builtin; refine stopHere ?_)
            refine goHere ?_
            refine ap_one (K := cH) _ ty_nodes12 rfl _ _ rfl (B := w8.heap.size) (v := .slice Ao j co) (xs := hs) rfl G1.out ⟨A2, (enc q).length, c2⟩ rfl rfl (by rw [G2.out]; omega) B2.out.size ?_
            intro v33 w33 ho hg1 hb1 hat
            have O3 := Lib.hid (G3.out w33 v33 _ (World.grownBy_alloc _ _ none) (by simp) ho hg1 hat)
            have B3 := Lib.hid (B2.out.trans hb1)
            clear ho hg1 hb1 hat
            go_wp2
            go_roundw
            case rel => exact ⟨j + 1, by omega, by go_num, by rw [HT.out]; exact O3.out, B3.out⟩
            case measure => simp [intOf]; omega
          · obtain rfl : j = O.length := by omega
            rw [HTA.out] at G
            have HS2 := Lib.hid G.out.sl2
            have HS4 := Lib.hid (S4.out.below hb)
            have A2 := Lib.hid (bthen A.out hb)
            clear hb A
            go_wp2_with fail
            refine (HRO.out _ _ _ HS4.out HS2.out HTot.out).mono ?_
            rintro e w34 ⟨A7, c7, rfl, s7, hb⟩
            have S7 := Lib.hid s7
            have HS44 := Lib.hid (HS4.out.below hb)
            have A3 := Lib.hid (bthen A2.out hb)
            clear hb s7
            go_wp2_with fail
            refine (HLF.out _ _ _ S7.out HS44.out).mono ?_
            rintro e w35 ⟨rfl, hb⟩
            have A := Lib.hid (bthen A3.out hb)
            clear hb
            go_wp2
            go_ret
            exact ⟨rfl, A.out⟩
    · obtain rfl : k = 0 := by simpa using hk
      clear hk
      obtain ⟨f, n, m, hok, rfl, hl, rfl, hn, rfl, hm, hne, ho, rfl⟩ := HK.out rfl
      have hqo := uqF_ok hok hn hm
      have HG1 := Lib.hid (fun W a => impl_IsGuarded_ok (.slice A1 (enc f).length c1) f n W a hl hok hn)
      have HG2 := Lib.hid (fun W a => spec_IsGuarded_ok (.slice A1 (enc f).length c1) f n W a hl hok hn)
      obtain ⟨b, cd, eim, hcs⟩ := imt_pack (gd f n = true) fun hg => uqF_thm hok hn hm hg ho hne
      generalize uqF f n m = q at *
      have HSy := Lib.hid (fun v W a => laws_say5 q v W a hR hqo)
      have HMT := Lib.hid (fun lv rv W a c => eim ▸ impl_IsModalTheorem1 [] [q] (by simp) (by simp) (fun g hg => by rw [List.mem_singleton.1 hg]; exact ⟨hqo, hR⟩) lv rv W a c)
      clear HK hok hl hn hm hne ho hqo eim hR hL
      generalize gd f n = gg at *
      go_wp2_with fail
      refine (HG1.out _ S1.out).mono ?_
      rintro e w5 ⟨rfl, hb⟩
      replace h := Lib.hid (h.out.below hb)
      replace S1 := Lib.hid (S1.out.below hb)
      replace S3 := Lib.hid (S3.out.below hb)
      replace A := Lib.hid (bthen A.out hb)
      clear hb
      go_wp2_with fail
      refine (HG2.out _ S1.out).mono ?_
      rintro e w6 ⟨rfl, hb⟩
      replace h := Lib.hid (h.out.below hb)
      replace S1 := Lib.hid (S1.out.below hb)
      replace S3 := Lib.hid (S3.out.below hb)
      replace A := Lib.hid (bthen A.out hb)
      clear hb
      clear HG1 HG2 S1
      have hb := below_alloc' w6 (.cells #[] 9)
      have E0 := Lib.hid (lit_str0 w6)
      replace h := Lib.hid (h.out.below hb)
      replace S3 := Lib.hid (S3.out.below hb)
      replace A := Lib.hid (bthen A.out hb)
      clear hb
      go_wp2_with fail
      refine (HSy.out _ _ S3.out).mono ?_
      rintro e w7 ⟨rfl, hb⟩
      replace h := Lib.hid (h.out.below hb)
      replace S3 := Lib.hid (S3.out.below hb)
      replace E0 := Lib.hid (E0.out.below hb)
      replace A := Lib.hid (bthen A.out hb)
      clear hb
      clear HSy S3
      have hb := below_alloc' w7 (.cells #[.string (txt q)] 9)
      have E1 := Lib.hid (lit_strO w7 (txt q))
      replace h := Lib.hid (h.out.below hb)
      replace E0 := Lib.hid (E0.out.below hb)
      replace A := Lib.hid (bthen A.out hb)
      clear hb
      go_wp2_with fail
      refine (HMT.out _ _ _ E0.out E1.out).mono ?_
      rintro e w8 ⟨rfl, hb⟩
      replace h := Lib.hid (h.out.below hb)
      replace E0 := Lib.hid (E0.out.below hb)
      replace E1 := Lib.hid (E1.out.below hb)
      replace A := Lib.hid (bthen A.out hb)
      clear hb
      clear HMT E0 E1
      rcases hcs with ⟨rfl, hb⟩ | rfl
      · cases gg
        · clear hb
          go_wp2_with fail
          refine (HD2.out _ h.out).mono ?_
          rintro e w9 ⟨u2, L2, x2, rfl, hL2, s4, hb⟩
          replace h := Lib.hid (h.out.below hb)
          replace A := Lib.hid (bthen A.out hb)
          clear hb
          obtain ⟨A4, c4, rfl⟩ := s4.opn
          have S4 := Lib.hid s4
          clear s4
          obtain ⟨R2, k2, hR2, hI2, hS2, hK2⟩ := op_both L2 x2 (by omega)
          have HI2 := Lib.hid hI2
          have HS2 := Lib.hid hS2
          have HK2 := Lib.hid hK2
          clear hI2 hS2 hK2
          have HLT := Lib.hid (fun v u W a b => laws_likeTexts5 v u R2 W a b (by omega))
          go_wp2_with fail
          refine (HI2.out _ _ S4.out).mono ?_
          rintro e w10 ⟨A5, c5, rfl, s5, hb⟩
          replace S4 := Lib.hid (S4.out.below hb)
          replace A := Lib.hid (bthen A.out hb)
          clear hb
          have S5 := Lib.hid s5
          clear s5
          go_wp2_with fail
          refine (HS2.out _ _ S4.out).mono ?_
          rintro e w11 ⟨A6, c6, rfl, s6, hb⟩
          replace S4 := Lib.hid (S4.out.below hb)
          replace S5 := Lib.hid (S5.out.below hb)
          replace A := Lib.hid (bthen A.out hb)
          clear hb
          have S6 := Lib.hid s6
          clear s6
          go_wp2_with fail
          refine (HLT.out _ _ _ S5.out S6.out).mono ?_
          rintro e w12 ⟨rfl, hb⟩
          replace S4 := Lib.hid (S4.out.below hb)
          replace S5 := Lib.hid (S5.out.below hb)
          replace S6 := Lib.hid (S6.out.below hb)
          replace A := Lib.hid (bthen A.out hb)
          clear hb
          clear HI2 HS2 HLT S5
          cases hk2 : (k2 == 0)
          · clear HK2
            go_wp2
            go_ret
            exact ⟨rfl, A.out⟩
          · obtain rfl : k2 = 0 := by simpa using hk2
            clear hk2
            obtain ⟨f2, n2, hok2, rfl, hl2, rfl, hn2, rfl⟩ := HK2.out rfl
            clear HK2 hL2
            have hgd := outs_gd (s := n2) hok2 hl2
            have hop := (outs_props (s := n2) hok2 hl2).1
            have HRO := Lib.hid (fun v u W a b c => impl_ReplaceOuter_self v u f2 n2 W a b hl2 hok2 hn2 c)
            have HLF := Lib.hid (fun v u W a b => laws_likeFormula5 v u (enc f2) W a b (by omega))
            have HTot : Hid (tot ((outs n2 f2 []).map enc) ≤ 1048576) := Lib.hid (tot_gd hgd hop)
            have HG := Lib.hid hgd
            clear hgd hl2 hok2 hn2 hR2
            rw [List.length_map] at *
            generalize outs n2 f2 [] = O at *
            have HTL : Hid (∀ j, j ≤ O.length → (O.take j).length = j) := Lib.hid fun j hj => by rw [List.length_take]; omega
            have HTA : Hid (O.take O.length = O) := Lib.hid (List.take_length)
            have HT0 : Hid (O.take 0 = []) := Lib.hid (by simp)
            go_wp2
            go_loopw [22, 23] (fun ov i wr => ∃ j : Nat, j ≤ O.length ∧ i = .int .i64 j ∧ Grw fmS w12.heap.size wr ov (O.take j) ∧ Below w12.heap.size w12 wr) (fun _ i _ => O.length - (intOf i).toNat)
            case atStart => exact ⟨0, Nat.zero_le _, rfl, by rw [HT0.out]; exact Grw.lit0 _, below_alloc' _ _⟩
            case round =>
              obtain ⟨j, hj, rfl, ho, hb⟩ := hrel
              obtain ⟨w31, hw1⟩ : ∃ W, W = wr := ⟨_, rfl⟩
              subst hw1
              obtain ⟨Ao, co, rfl⟩ := ho.opn
              rw [HTL.out j hj] at ho ⊢
              have G := Lib.hid ho
              have HB := Lib.hid hb
              clear ho
              by_cases hlt : j < O.length
              · obtain ⟨b, o, rfl, hbl, hc⟩ := (S6.out.below hb).cell (k := j) (by rw [List.length_map]; exact hlt)
                have hc0 : w31.cell? ⟨b, o + j, none⟩ = some (.string (txt O[j])) := by
                  have := hc 0 (.string (txt O[j])) (by simp [cS])
                  simpa [cS] using this
                have hgj := HG.out O[j] (List.getElem_mem hlt)
                have HP := Lib.hid (fun W => laws_read5O O[j] W hgj.1 hgj.2)
                have HT : Hid (O.take (j + 1) = O.take j ++ [O[j]]) := Lib.hid (List.take_succ_eq_append_getElem hlt)
                have i1 : (j : Int) < (O.length : Int) := by omega
                have HL1 := Lib.hid (HTL.out j hj)
                clear hc hb hgj
                generalize O[j] = q at *
                go_wp2_with fail
                refine (HP.out _).mono ?_
                rintro e w32 ⟨A2, c2, rfl, ho2, hb2⟩
                have O2 := G.out.below hb2
                obtain ⟨hs, g1, g2, g3⟩ := O2.push (S := fmS) (a := ⟨A2, (enc q).length, c2⟩) (b := q) ho2.sl (fun k e => by
                  have := ho2.block k e
                  refine ⟨by have := HB.out.size; omega, this.2, fun e2 => ?_⟩
                  have := (G.out.blk k e2).2
                  omega)
                have G1 := Lib.hid g1
                have G2 : Hid (hs.length = j) := Lib.hid (by rw [g2, HL1.out])
                have G3 := Lib.hid g3
                have B2 := Lib.hid (HB.out.trans (hb2.mono HB.out.size))
                clear hc0 hbl ho2 hb2 O2 g1 g2 g3
                go_wp2_with (at_builtin; refine stopHere ?_)
                refine goHere ?_
                refine ap_one (K := cH) _ ty_nodes12 rfl _ _ rfl (B := w12.heap.size) (v := .slice Ao j co) (xs := hs) rfl G1.out ⟨A2, (enc q).length, c2⟩ rfl rfl (by rw [G2.out]; omega) B2.out.size ?_
                intro v33 w33 ho hg1 hb1 hat
                have O3 := Lib.hid (G3.out w33 v33 _ (World.grownBy_alloc _ _ none) (by simp) ho hg1 hat)
                have B3 := Lib.hid (B2.out.trans hb1)
                clear ho hg1 hb1 hat
                go_wp2
                go_roundw
                case rel => exact ⟨j + 1, by omega, by go_num, by rw [HT.out]; exact O3.out, B3.out⟩
                case measure => simp [intOf]; omega
              · obtain rfl : j = O.length := by omega
                rw [HTA.out] at G
                have HS2 := Lib.hid G.out.sl2
                have HS4 := Lib.hid (S4.out.below hb)
                have A2 := Lib.hid (bthen A.out hb)
                clear hb A
                go_wp2_with fail
                refine (HRO.out _ _ _ HS4.out HS2.out HTot.out).mono ?_
                rintro e w34 ⟨A7, c7, rfl, s7, hb⟩
                have S7 := Lib.hid s7
                have HS44 := Lib.hid (HS4.out.below hb)
                have A3 := Lib.hid (bthen A2.out hb)
                clear hb s7
                go_wp2_with fail
                refine (HLF.out _ _ _ S7.out HS44.out).mono ?_
                rintro e w35 ⟨rfl, hb⟩
                have A := Lib.hid (bthen A3.out hb)
                clear hb
                go_wp2
                go_ret
                exact ⟨rfl, A.out⟩
        · obtain rfl : b = true := hb rfl
          clear hb
          go_wp2_with fail
          refine (HD2.out _ h.out).mono ?_
          rintro e w9 ⟨u2, L2, x2, rfl, hL2, s4, hb⟩
          replace h := Lib.hid (h.out.below hb)
          replace A := Lib.hid (bthen A.out hb)
          clear hb
          obtain ⟨A4, c4, rfl⟩ := s4.opn
          have S4 := Lib.hid s4
          clear s4
          obtain ⟨R2, k2, hR2, hI2, hS2, hK2⟩ := op_both L2 x2 (by omega)
          have HI2 := Lib.hid hI2
          have HS2 := Lib.hid hS2
          have HK2 := Lib.hid hK2
          clear hI2 hS2 hK2
          have HLT := Lib.hid (fun v u W a b => laws_likeTexts5 v u R2 W a b (by omega))
          go_wp2_with fail
          refine (HI2.out _ _ S4.out).mono ?_
          rintro e w10 ⟨A5, c5, rfl, s5, hb⟩
          replace S4 := Lib.hid (S4.out.below hb)
          replace A := Lib.hid (bthen A.out hb)
          clear hb
          have S5 := Lib.hid s5
          clear s5
          go_wp2_with fail
          refine (HS2.out _ _ S4.out).mono ?_
          rintro e w11 ⟨A6, c6, rfl, s6, hb⟩
          replace S4 := Lib.hid (S4.out.below hb)
          replace S5 := Lib.hid (S5.out.below hb)
          replace A := Lib.hid (bthen A.out hb)
          clear hb
          have S6 := Lib.hid s6
          clear s6
          go_wp2_with fail
          refine (HLT.out _ _ _ S5.out S6.out).mono ?_
          rintro e w12 ⟨rfl, hb⟩
          replace S4 := Lib.hid (S4.out.below hb)
          replace S5 := Lib.hid (S5.out.below hb)
          replace S6 := Lib.hid (S6.out.below hb)
          replace A := Lib.hid (bthen A.out hb)
          clear hb
          clear HI2 HS2 HLT S5
          cases hk2 : (k2 == 0)
          · clear HK2
            go_wp2
            go_ret
            exact ⟨rfl, A.out⟩
          · obtain rfl : k2 = 0 := by simpa using hk2
            clear hk2
            obtain ⟨f2, n2, hok2, rfl, hl2, rfl, hn2, rfl⟩ := HK2.out rfl
            clear HK2 hL2
            have hgd := outs_gd (s := n2) hok2 hl2
            have hop := (outs_props (s := n2) hok2 hl2).1
            have HRO := Lib.hid (fun v u W a b c => impl_ReplaceOuter_self v u f2 n2 W a b hl2 hok2 hn2 c)
            have HLF := Lib.hid (fun v u W a b => laws_likeFormula5 v u (enc f2) W a b (by omega))
            have HTot : Hid (tot ((outs n2 f2 []).map enc) ≤ 1048576) := Lib.hid (tot_gd hgd hop)
            have HG := Lib.hid hgd
            clear hgd hl2 hok2 hn2 hR2
            rw [List.length_map] at *
            generalize outs n2 f2 [] = O at *
            have HTL : Hid (∀ j, j ≤ O.length → (O.take j).length = j) := Lib.hid fun j hj => by rw [List.length_take]; omega
            have HTA : Hid (O.take O.length = O) := Lib.hid (List.take_length)
            have HT0 : Hid (O.take 0 = []) := Lib.hid (by simp)
            go_wp2
            go_loopw [22, 23] (fun ov i wr => ∃ j : Nat, j ≤ O.length ∧ i = .int .i64 j ∧ Grw fmS w12.heap.size wr ov (O.take j) ∧ Below w12.heap.size w12 wr) (fun _ i _ => O.length - (intOf i).toNat)
            case atStart => exact ⟨0, Nat.zero_le _, rfl, by rw [HT0.out]; exact Grw.lit0 _, below_alloc' _ _⟩
            case round =>
              obtain ⟨j, hj, rfl, ho, hb⟩ := hrel
              obtain ⟨w31, hw1⟩ : ∃ W, W = wr := ⟨_, rfl⟩
              subst hw1
              obtain ⟨Ao, co, rfl⟩ := ho.opn
              rw [HTL.out j hj] at ho ⊢
              have G := Lib.hid ho
              have HB := Lib.hid hb
              clear ho
              by_cases hlt : j < O.length
              · obtain ⟨b, o, rfl, hbl, hc⟩ := (S6.out.below hb).cell (k := j) (by rw [List.length_map]; exact hlt)
                have hc0 : w31.cell? ⟨b, o + j, none⟩ = some (.string (txt O[j])) := by
                  have := hc 0 (.string (txt O[j])) (by simp [cS])
                  simpa [cS] using this
                have hgj := HG.out O[j] (List.getElem_mem hlt)
                have HP := Lib.hid (fun W => laws_read5O O[j] W hgj.1 hgj.2)
                have HT : Hid (O.take (j + 1) = O.take j ++ [O[j]]) := Lib.hid (List.take_succ_eq_append_getElem hlt)
                have i1 : (j : Int) < (O.length : Int) := by omega
                have HL1 := Lib.hid (HTL.out j hj)
                clear hc hb hgj
                generalize O[j] = q at *
                go_wp2_with fail
                refine (HP.out _).mono ?_
                rintro e w32 ⟨A2, c2, rfl, ho2, hb2⟩
                have O2 := G.out.below hb2
                obtain ⟨hs, g1, g2, g3⟩ := O2.push (S := fmS) (a := ⟨A2, (enc q).length, c2⟩) (b := q) ho2.sl (fun k e => by
                  have := ho2.block k e
                  refine ⟨by have := HB.out.size; omega, this.2, fun e2 => ?_⟩
                  have := (G.out.blk k e2).2
                  omega)
                have G1 := Lib.hid g1
                have G2 : Hid (hs.length = j) := Lib.hid (by rw [g2, HL1.out])
                have G3 := Lib.hid g3
                have B2 := Lib.hid (HB.out.trans (hb2.mono HB.out.size))
                clear hc0 hbl ho2 hb2 O2 g1 g2 g3
                go_wp2_with (at_builtin; refine stopHere ?_)
                refine goHere ?_
                refine ap_one (K := cH) _ ty_nodes12 rfl _ _ rfl (B := w12.heap.size) (v := .slice Ao j co) (xs := hs) rfl G1.out ⟨A2, (enc q).length, c2⟩ rfl rfl (by rw [G2.out]; omega) B2.out.size ?_
                intro v33 w33 ho hg1 hb1 hat
                have O3 := Lib.hid (G3.out w33 v33 _ (World.grownBy_alloc _ _ none) (by simp) ho hg1 hat)
                have B3 := Lib.hid (B2.out.trans hb1)
                clear ho hg1 hb1 hat
                go_wp2
                go_roundw
                case rel => exact ⟨j + 1, by omega, by go_num, by rw [HT.out]; exact O3.out, B3.out⟩
                case measure => simp [intOf]; omega
              · obtain rfl : j = O.length := by omega
                rw [HTA.out] at G
                have HS2 := Lib.hid G.out.sl2
                have HS4 := Lib.hid (S4.out.below hb)
                have A2 := Lib.hid (bthen A.out hb)
                clear hb A
                go_wp2_with fail
                refine (HRO.out _ _ _ HS4.out HS2.out HTot.out).mono ?_
                rintro e w34 ⟨A7, c7, rfl, s7, hb⟩
                have S7 := Lib.hid s7
                have HS44 := Lib.hid (HS4.out.below hb)
                have A3 := Lib.hid (bthen A2.out hb)
                clear hb s7
                go_wp2_with fail
                refine (HLF.out _ _ _ S7.out HS44.out).mono ?_
                rintro e w35 ⟨rfl, hb⟩
                have A := Lib.hid (bthen A3.out hb)
                clear hb
                go_wp2
                go_ret
                exact ⟨rfl, A.out⟩
      · cases gg
        · skip
          go_wp2_with fail
          refine (HD2.out _ h.out).mono ?_
          rintro e w9 ⟨u2, L2, x2, rfl, hL2, s4, hb⟩
          replace h := Lib.hid (h.out.below hb)
          replace A := Lib.hid (bthen A.out hb)
          clear hb
          obtain ⟨A4, c4, rfl⟩ := s4.opn
          have S4 := Lib.hid s4
          clear s4
          obtain ⟨R2, k2, hR2, hI2, hS2, hK2⟩ := op_both L2 x2 (by omega)
          have HI2 := Lib.hid hI2
          have HS2 := Lib.hid hS2
          have HK2 := Lib.hid hK2
          clear hI2 hS2 hK2
          have HLT := Lib.hid (fun v u W a b => laws_likeTexts5 v u R2 W a b (by omega))
          go_wp2_with fail
          refine (HI2.out _ _ S4.out).mono ?_
          rintro e w10 ⟨A5, c5, rfl, s5, hb⟩
          replace S4 := Lib.hid (S4.out.below hb)
          replace A := Lib.hid (bthen A.out hb)
          clear hb
          have S5 := Lib.hid s5
          clear s5
          go_wp2_with fail
          refine (HS2.out _ _ S4.out).mono ?_
          rintro e w11 ⟨A6, c6, rfl, s6, hb⟩
          replace S4 := Lib.hid (S4.out.below hb)
          replace S5 := Lib.hid (S5.out.below hb)
          replace A := Lib.hid (bthen A.out hb)
          clear hb
          have S6 := Lib.hid s6
          clear s6
          go_wp2_with fail
          refine (HLT.out _ _ _ S5.out S6.out).mono ?_
          rintro e w12 ⟨rfl, hb⟩
          replace S4 := Lib.hid (S4.out.below hb)
          replace S5 := Lib.hid (S5.out.below hb)
          replace S6 := Lib.hid (S6.out.below hb)
          replace A := Lib.hid (bthen A.out hb)
          clear hb
          clear HI2 HS2 HLT S5
          cases hk2 : (k2 == 0)
          · clear HK2
            go_wp2
            go_ret
            exact ⟨rfl, A.out⟩
          · obtain rfl : k2 = 0 := by simpa using hk2
            clear hk2
            obtain ⟨f2, n2, hok2, rfl, hl2, rfl, hn2, rfl⟩ := HK2.out rfl
            clear HK2 hL2
            have hgd := outs_gd (s := n2) hok2 hl2
            have hop := (outs_props (s := n2) hok2 hl2).1
            have HRO := Lib.hid (fun v u W a b c => impl_ReplaceOuter_self v u f2 n2 W a b hl2 hok2 hn2 c)
            have HLF := Lib.hid (fun v u W a b => laws_likeFormula5 v u (enc f2) W a b (by omega))
            have HTot : Hid (tot ((outs n2 f2 []).map enc) ≤ 1048576) := Lib.hid (tot_gd hgd hop)
            have HG := Lib.hid hgd
            clear hgd hl2 hok2 hn2 hR2
            rw [List.length_map] at *
            generalize outs n2 f2 [] = O at *
            have HTL : Hid (∀ j, j ≤ O.length → (O.take j).length = j) := Lib.hid fun j hj => by rw [List.length_take]; omega
            have HTA : Hid (O.take O.length = O) := Lib.hid (List.take_length)
            have HT0 : Hid (O.take 0 = []) := Lib.hid (by simp)
            go_wp2
            go_loopw [22, 23] (fun ov i wr => ∃ j : Nat, j ≤ O.length ∧ i = .int .i64 j ∧ Grw fmS w12.heap.size wr ov (O.take j) ∧ Below w12.heap.size w12 wr) (fun _ i _ => O.length - (intOf i).toNat)
            case atStart => exact ⟨0, Nat.zero_le _, rfl, by rw [HT0.out]; exact Grw.lit0 _, below_alloc' _ _⟩
            case round =>
              obtain ⟨j, hj, rfl, ho, hb⟩ := hrel
              obtain ⟨w31, hw1⟩ : ∃ W, W = wr := ⟨_, rfl⟩
              subst hw1
              obtain ⟨Ao, co, rfl⟩ := ho.opn
              rw [HTL.out j hj] at ho ⊢
              have G := Lib.hid ho
              have HB := Lib.hid hb
              clear ho
              by_cases hlt : j < O.length
              · obtain ⟨b, o, rfl, hbl, hc⟩ := (S6.out.below hb).cell (k := j) (by rw [List.length_map]; exact hlt)
                have hc0 : w31.cell? ⟨b, o + j, none⟩ = some (.string (txt O[j])) := by
                  have := hc 0 (.string (txt O[j])) (by simp [cS])
                  simpa [cS] using this
                have hgj := HG.out O[j] (List.getElem_mem hlt)
                have HP := Lib.hid (fun W => laws_read5O O[j] W hgj.1 hgj.2)
                have HT : Hid (O.take (j + 1) = O.take j ++ [O[j]]) := Lib.hid (List.take_succ_eq_append_getElem hlt)
                have i1 : (j : Int) < (O.length : Int) := by omega
                have HL1 := Lib.hid (HTL.out j hj)
                clear hc hb hgj
                generalize O[j] = q at *
                go_wp2_with fail
                refine (HP.out _).mono ?_
                rintro e w32 ⟨A2, c2, rfl, ho2, hb2⟩
                have O2 := G.out.below hb2
                obtain ⟨hs, g1, g2, g3⟩ := O2.push (S := fmS) (a := ⟨A2, (enc q).length, c2⟩) (b := q) ho2.sl (fun k e => by
                  have := ho2.block k e
                  refine ⟨by have := HB.out.size; omega, this.2, fun e2 => ?_⟩
                  have := (G.out.blk k e2).2
                  omega)
                have G1 := Lib.hid g1
                have G2 : Hid (hs.length = j) := Lib.hid (by rw [g2, HL1.out])
                have G3 := Lib.hid g3
                have B2 := Lib.hid (HB.out.trans (hb2.mono HB.out.size))
                clear hc0 hbl ho2 hb2 O2 g1 g2 g3
                go_wp2_with (at_builtin; refine stopHere ?_)
                refine goHere ?_
                refine ap_one (K := cH) _ ty_nodes12 rfl _ _ rfl (B := w12.heap.size) (v := .slice Ao j co) (xs := hs) rfl G1.out ⟨A2, (enc q).length, c2⟩ rfl rfl (by rw [G2.out]; omega) B2.out.size ?_
                intro v33 w33 ho hg1 hb1 hat
                have O3 := Lib.hid (G3.out w33 v33 _ (World.grownBy_alloc _ _ none) (by simp) ho hg1 hat)
                have B3 := Lib.hid (B2.out.trans hb1)
                clear ho hg1 hb1 hat
                go_wp2
                go_roundw
                case rel => exact ⟨j + 1, by omega, by go_num, by rw [HT.out]; exact O3.out, B3.out⟩
                case measure => simp [intOf]; omega
              · obtain rfl : j = O.length := by omega
                rw [HTA.out] at G
                have HS2 := Lib.hid G.out.sl2
                have HS4 := Lib.hid (S4.out.below hb)
                have A2 := Lib.hid (bthen A.out hb)
                clear hb A
                go_wp2_with fail
                refine (HRO.out _ _ _ HS4.out HS2.out HTot.out).mono ?_
                rintro e w34 ⟨A7, c7, rfl, s7, hb⟩
                have S7 := Lib.hid s7
                have HS44 := Lib.hid (HS4.out.below hb)
                have A3 := Lib.hid (bthen A2.out hb)
                clear hb s7
                go_wp2_with fail
                refine (HLF.out _ _ _ S7.out HS44.out).mono ?_
                rintro e w35 ⟨rfl, hb⟩
                have A := Lib.hid (bthen A3.out hb)
                clear hb
                go_wp2
                go_ret
                exact ⟨rfl, A.out⟩
        · skip
          go_wp2_with fail
          refine (HD2.out _ h.out).mono ?_
          rintro e w9 ⟨u2, L2, x2, rfl, hL2, s4, hb⟩
          replace h := Lib.hid (h.out.below hb)
          replace A := Lib.hid (bthen A.out hb)
          clear hb
          obtain ⟨A4, c4, rfl⟩ := s4.opn
          have S4 := Lib.hid s4
          clear s4
          obtain ⟨R2, k2, hR2, hI2, hS2, hK2⟩ := op_both L2 x2 (by omega)
          have HI2 := Lib.hid hI2
          have HS2 := Lib.hid hS2
          have HK2 := Lib.hid hK2
          clear hI2 hS2 hK2
          have HLT := Lib.hid (fun v u W a b => laws_likeTexts5 v u R2 W a b (by omega))
          go_wp2_with fail
          refine (HI2.out _ _ S4.out).mono ?_
          rintro e w10 ⟨A5, c5, rfl, s5, hb⟩
          replace S4 := Lib.hid (S4.out.below hb)
          replace A := Lib.hid (bthen A.out hb)
          clear hb
          have S5 := Lib.hid s5
          clear s5
          go_wp2_with fail
          refine (HS2.out _ _ S4.out).mono ?_
          rintro e w11 ⟨A6, c6, rfl, s6, hb⟩
          replace S4 := Lib.hid (S4.out.below hb)
          replace S5 := Lib.hid (S5.out.below hb)
          replace A := Lib.hid (bthen A.out hb)
          clear hb
          have S6 := Lib.hid s6
          clear s6
          go_wp2_with fail
          refine (HLT.out _ _ _ S5.out S6.out).mono ?_
          rintro e w12 ⟨rfl, hb⟩
          replace S4 := Lib.hid (S4.out.below hb)
          replace S5 := Lib.hid (S5.out.below hb)
          replace S6 := Lib.hid (S6.out.below hb)
          replace A := Lib.hid (bthen A.out hb)
          clear hb
          clear HI2 HS2 HLT S5
          cases hk2 : (k2 == 0)
          · clear HK2
            go_wp2
            go_ret
            exact ⟨rfl, A.out⟩
          · obtain rfl : k2 = 0 := by simpa using hk2
            clear hk2
            obtain ⟨f2, n2, hok2, rfl, hl2, rfl, hn2, rfl⟩ := HK2.out rfl
            clear HK2 hL2
            have hgd := outs_gd (s := n2) hok2 hl2
            have hop := (outs_props (s := n2) hok2 hl2).1
            have HRO := Lib.hid (fun v u W a b c => impl_ReplaceOuter_self v u f2 n2 W a b hl2 hok2 hn2 c)
            have HLF := Lib.hid (fun v u W a b => laws_likeFormula5 v u (enc f2) W a b (by omega))
            have HTot : Hid (tot ((outs n2 f2 []).map enc) ≤ 1048576) := Lib.hid (tot_gd hgd hop)
            have HG := Lib.hid hgd
            clear hgd hl2 hok2 hn2 hR2
            rw [List.length_map] at *
            generalize outs n2 f2 [] = O at *
            have HTL : Hid (∀ j, j ≤ O.length → (O.take j).length = j) := Lib.hid fun j hj => by rw [List.length_take]; omega
            have HTA : Hid (O.take O.length = O) := Lib.hid (List.take_length)
            have HT0 : Hid (O.take 0 = []) := Lib.hid (by simp)
            go_wp2
            go_loopw [22, 23] (fun ov i wr => ∃ j : Nat, j ≤ O.length ∧ i = .int .i64 j ∧ Grw fmS w12.heap.size wr ov (O.take j) ∧ Below w12.heap.size w12 wr) (fun _ i _ => O.length - (intOf i).toNat)
            case atStart => exact ⟨0, Nat.zero_le _, rfl, by rw [HT0.out]; exact Grw.lit0 _, below_alloc' _ _⟩
            case round =>
              obtain ⟨j, hj, rfl, ho, hb⟩ := hrel
              obtain ⟨w31, hw1⟩ : ∃ W, W = wr := ⟨_, rfl⟩
              subst hw1
              obtain ⟨Ao, co, rfl⟩ := ho.opn
              rw [HTL.out j hj] at ho ⊢
              have G := Lib.hid ho
              have HB := Lib.hid hb
              clear ho
              by_cases hlt : j < O.length
              · obtain ⟨b, o, rfl, hbl, hc⟩ := (S6.out.below hb).cell (k := j) (by rw [List.length_map]; exact hlt)
                have hc0 : w31.cell? ⟨b, o + j, none⟩ = some (.string (txt O[j])) := by
                  have := hc 0 (.string (txt O[j])) (by simp [cS])
                  simpa [cS] using this
                have hgj := HG.out O[j] (List.getElem_mem hlt)
                have HP := Lib.hid (fun W => laws_read5O O[j] W hgj.1 hgj.2)
                have HT : Hid (O.take (j + 1) = O.take j ++ [O[j]]) := Lib.hid (List.take_succ_eq_append_getElem hlt)
                have i1 : (j : Int) < (O.length : Int) := by omega
                have HL1 := Lib.hid (HTL.out j hj)
                clear hc hb hgj
                generalize O[j] = q at *
                go_wp2_with fail
                refine (HP.out _).mono ?_
                rintro e w32 ⟨A2, c2, rfl, ho2, hb2⟩
                have O2 := G.out.below hb2
                obtain ⟨hs, g1, g2, g3⟩ := O2.push (S := fmS) (a := ⟨A2, (enc q).length, c2⟩) (b := q) ho2.sl (fun k e => by
                  have := ho2.block k e
                  refine ⟨by have := HB.out.size; omega, this.2, fun e2 => ?_⟩
                  have := (G.out.blk k e2).2
                  omega)
                have G1 := Lib.hid g1
                have G2 : Hid (hs.length = j) := Lib.hid (by rw [g2, HL1.out])
                have G3 := Lib.hid g3
                have B2 := Lib.hid (HB.out.trans (hb2.mono HB.out.size))
                clear hc0 hbl ho2 hb2 O2 g1 g2 g3
                go_wp2_with (at_builtin; refine stopHere ?_)
                refine goHere ?_
                refine ap_one (K := cH) _ ty_nodes12 rfl _ _ rfl (B := w12.heap.size) (v := .slice Ao j co) (xs := hs) rfl G1.out ⟨A2, (enc q).length, c2⟩ rfl rfl (by rw [G2.out]; omega) B2.out.size ?_
                intro v33 w33 ho hg1 hb1 hat
                have O3 := Lib.hid (G3.out w33 v33 _ (World.grownBy_alloc _ _ none) (by simp) ho hg1 hat)
                have B3 := Lib.hid (B2.out.trans hb1)
                clear ho hg1 hb1 hat
                go_wp2
                go_roundw
                case rel => exact ⟨j + 1, by omega, by go_num, by rw [HT.out]; exact O3.out, B3.out⟩
                case measure => simp [intOf]; omega
              · obtain rfl : j = O.length := by omega
                rw [HTA.out] at G
                have HS2 := Lib.hid G.out.sl2
                have HS4 := Lib.hid (S4.out.below hb)
                have A2 := Lib.hid (bthen A.out hb)
                clear hb A
                go_wp2_with fail
                refine (HRO.out _ _ _ HS4.out HS2.out HTot.out).mono ?_
                rintro e w34 ⟨A7, c7, rfl, s7, hb⟩
                have S7 := Lib.hid s7
                have HS44 := Lib.hid (HS4.out.below hb)
                have A3 := Lib.hid (bthen A2.out hb)
                clear hb s7
                go_wp2_with fail
                refine (HLF.out _ _ _ S7.out HS44.out).mono ?_
                rintro e w35 ⟨rfl, hb⟩
                have A := Lib.hid (bthen A3.out hb)
                clear hb
                go_wp2
                go_ret
                exact ⟨rfl, A.out⟩
end Go.Proofs.YtgcoohlakcncbaaGreat

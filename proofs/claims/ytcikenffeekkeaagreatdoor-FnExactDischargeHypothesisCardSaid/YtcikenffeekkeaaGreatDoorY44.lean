/- Contracts of the reference: is a line as in a proof? Boxes, and all rules. Written by genS3G.py. -/
import Derived.Test.YtcikenffeekkeaaGreatDoorY43
namespace Go.Proofs.YtcikenffeekkeaaGreatDoor
open Go.RowKit
set_option linter.unusedVariables false
set_option linter.unusedSimpArgs false
set_option maxRecDepth 100000 in
set_option maxHeartbeats 4000000 in
theorem spec_l13Fine_box (t : List UInt8) (hy : List (List Nd)) (ls : List Ln) (k : Nat) (hk : k < ls.length) (vh vl : Value) (w : World) (hH : Sl2 cN w vh hy) (hhl : hy.length ≤ 1048576) (hhy : ∀ xs ∈ hy, xs.length ≤ 1048576) (hL : SlL w vl ls) (hll : ls.length ≤ 200) (hlx : ∀ l ∈ ls, l.x.length ≤ 1048576)
    (hok : ∀ i (h : i < ls.length), i < k → fine t hy ls i (ls[i]'h) = true) (f s : Int) (xs : List Nd) (hPk : ls[k] = ⟨4, f, s, xs⟩) (hF : isF xs = true) :
    Calls Tryz.prog 56 #[.string ⟨⟨t⟩⟩, vh, vl, .int .i64 (k : Int)] w fun e w' => e = .returned (.bool (fine t hy ls k (ls[k]'hk))) ∧ Below w.heap.size w w' := by
  have HLL := Lib.hid hL
  have HHH := Lib.hid hH
  have HOK := Lib.hid hok
  have hxk := hlx _ (List.getElem_mem hk)
  have HLX := Lib.hid hlx
  have HHY := Lib.hid hhy
  obtain ⟨AL, cL, rfl⟩ := hL.opn
  obtain ⟨Ah, ch, rfl⟩ := hH.opn
  have HCP := Lib.hid hL.capL
  obtain ⟨bL, oL, Ax, cx, rfl, hbL, l0, l1, l2, l3, hsx⟩ := hL.at_ hk
  rw [hPk] at hxk l0 l1 l2 l3 hsx ⊢
  simp only at hxk l0 l1 l2 l3 hsx
  have HX := Lib.hid hsx
  have hb1 := below_alloc' w (.cells #[.int .i64 4, .int .i64 f, .int .i64 s, .slice Ax xs.length cx] 46)
  have hkk := Blk.new w 46 #[.int .i64 4, .int .i64 f, .int .i64 s, .slice Ax xs.length cx]
  have HB1 := Lib.hid hb1
  obtain ⟨fv, hfv⟩ : ∃ b, fine t hy ls k ⟨4, f, s, xs⟩ = b := ⟨_, rfl⟩
  rw [hfv]
  unfold fine at hfv
  simp only at hfv
  have HFV := Lib.hid hfv
  have hwr : IntKind.i64.wrap ((k : Int) - 1) = (k : Int) - 1 := IntWalk.i64_in _ ⟨by omega, by omega⟩
  have HPK := Lib.hid hPk
  clear hL hH hok hlx hhy hsx hb1 hfv hPk
  go_enter Tryz.func56, Tryz.ntmps56
  go_upto_region 2 with fail
  clear l0 l1 l2 l3
  obtain ⟨w1, hw1⟩ : ∃ W, W = w.alloc (.cells #[.int .i64 4, .int .i64 f, .int .i64 s, .slice Ax xs.length cx] 46) := ⟨_, rfl⟩
  rw [← hw1] at hkk HB1 ⊢
  obtain ⟨p, hp⟩ : ∃ p, w.heap.size = p := ⟨_, rfl⟩
  have HPW : Hid (w.heap.size = p) := Lib.hid hp
  rw [hp] at hkk ⊢
  clear hw1 hp
  have k0 : w1.cell? ⟨p, 0, none⟩ = some (.int .i64 4) := hkk.cell 0
  have k1 : w1.cell? ⟨p, 1, none⟩ = some (.int .i64 f) := hkk.cell 1
  have k2 : w1.cell? ⟨p, 2, none⟩ = some (.int .i64 s) := hkk.cell 2
  have k3 : w1.cell? ⟨p, 3, none⟩ = some (.slice Ax xs.length cx) := hkk.cell 3
  have lp := hkk.lt
  clear hkk
  have HIS := Lib.hid (spec_l02Is _ xs w1 (HX.out.below HB1.out) (by omega))
  have HIN := Lib.hid (spec_l01In f 0 ((k : Int) - 1) w1)
  go_wp2_with fail
  refine HIS.out.mono ?_
  rintro e w1' ⟨rfl, rfl⟩
  clear HIS
  rw [hF, Bool.true_and] at HFV
  rw [hF]
  have HFN := Lib.hid hF
  go_wp2_with fail
  refine HIN.out.mono ?_
  rintro e w1' ⟨rfl, rfl⟩
  clear HIN
  rw [if_neg (by decide), if_neg (by decide), if_neg (by decide), if_pos trivial] at HFV
  have HMD : Hid (modal t = !((t == [73, 110, 116]) || (t == [67, 76]))) := Lib.hid (by
    unfold modal nmInt nmCL
    have e : ∀ x : List UInt8, decide (t = x) = (t == x) := fun x => by rw [Bool.eq_iff_iff]; simp
    rw [e, e])
  rw [HMD.out] at HFV
  have hex : ∃ bi, inR f 0 ((k : Int) - 1) = bi := ⟨_, rfl⟩
  obtain ⟨bi, hbi⟩ := hex
  have HBI := Lib.hid hbi
  rw [hbi] at HFV ⊢
  clear hbi
  go_upto_region 16 with fail
  by_cases hs : s = 0
  · subst hs
    rw [decide_eq_true rfl, Bool.and_true] at HFV
    cases bi with
    | false =>
      rw [Bool.and_false, Bool.false_and, Bool.false_and] at HFV
      refine wp_region_sched (Below w1.heap.size w1) 28 [0, 1, 2, 3, 4, 5, 6, 7, 8, 9, 10, 11, 12, 13, 14, 15, 16, 17, 18, 19, 20, 21, 22, 23, 26, 27] [0, 1, 2, 3, 4, 5, 6, 7, 8, 9, 10, 11, 12, 13, 14, 15, 16, 17, 18, 19, 20, 21, 22, 23, 24, 25, 26, 27] (by kernel_rfl) (by kernel_rfl) (Below.refl _ _).drew ?_
      repeat
        apply wpSched_q rfl rfl
        case h =>
          intro w' hI K hK
          have k1' := (hI.cell (p := ⟨p, 1, none⟩) lp).trans k1
          have k2' := (hI.cell (p := ⟨p, 2, none⟩) lp).trans k2
          have k3' := (hI.cell (p := ⟨p, 3, none⟩) lp).trans k3
          simp only [quietV, stillV]
          go_simp
          exact hK
        go_simp
      repeat
        refine wpSched_r rfl rfl ?_ (Below.refl _ _).drew
        intro K hK hI
        go_simp
        refine hK _ _ hI ?_
        clear hK K hI
      repeat
        apply wpSched_q rfl rfl
        case h =>
          intro w' hI K hK
          have k1' := (hI.cell (p := ⟨p, 1, none⟩) lp).trans k1
          have k2' := (hI.cell (p := ⟨p, 2, none⟩) lp).trans k2
          have k3' := (hI.cell (p := ⟨p, 3, none⟩) lp).trans k3
          simp only [quietV, stillV]
          go_simp
          exact hK
        go_simp
      refine wpSched_nil ?_
      try simp only [List.drop_succ_cons, List.drop_zero, List.drop_nil]
      clear k0 k1 k2 k3 lp
      go_wp2
      go_ret
      exact ⟨by rw [← HFV.out]; simp, HB1.out.drew⟩
    | true =>
      rw [Bool.and_true] at HFV
      cases h1 : (t == [73, 110, 116]) with
      | true =>
        rw [h1, Bool.true_or, Bool.not_true, Bool.false_and, Bool.false_and] at HFV
        refine wp_region_sched (Below w1.heap.size w1) 28 [0, 1, 2, 3, 4, 5, 6, 7, 8, 9, 10, 11, 12, 13, 14, 15, 16, 17, 18, 19, 20, 21, 22, 23, 26, 27] [0, 1, 2, 3, 4, 5, 6, 7, 8, 9, 10, 11, 12, 13, 14, 15, 16, 17, 18, 19, 20, 21, 22, 23, 24, 25, 26, 27] (by kernel_rfl) (by kernel_rfl) (Below.refl _ _).drew ?_
        repeat
          apply wpSched_q rfl rfl
          case h =>
            intro w' hI K hK
            have k1' := (hI.cell (p := ⟨p, 1, none⟩) lp).trans k1
            have k2' := (hI.cell (p := ⟨p, 2, none⟩) lp).trans k2
            have k3' := (hI.cell (p := ⟨p, 3, none⟩) lp).trans k3
            simp only [quietV, stillV]
            go_simp
            exact hK
          go_simp
        repeat
          refine wpSched_r rfl rfl ?_ (Below.refl _ _).drew
          intro K hK hI
          go_simp
          refine hK _ _ hI ?_
          clear hK K hI
        repeat
          apply wpSched_q rfl rfl
          case h =>
            intro w' hI K hK
            have k1' := (hI.cell (p := ⟨p, 1, none⟩) lp).trans k1
            have k2' := (hI.cell (p := ⟨p, 2, none⟩) lp).trans k2
            have k3' := (hI.cell (p := ⟨p, 3, none⟩) lp).trans k3
            simp only [quietV, stillV]
            go_simp
            exact hK
          go_simp
        refine wpSched_nil ?_
        try simp only [List.drop_succ_cons, List.drop_zero, List.drop_nil]
        clear k0 k1 k2 k3 lp
        go_wp2
        go_ret
        exact ⟨by rw [← HFV.out]; simp, HB1.out.drew⟩
      | false =>
        rw [h1, Bool.false_or] at HFV
        cases h2 : (t == [67, 76]) with
        | true =>
          rw [h2, Bool.not_true, Bool.false_and, Bool.false_and] at HFV
          refine wp_region_sched (Below w1.heap.size w1) 28 [0, 1, 2, 3, 4, 5, 6, 7, 8, 9, 10, 11, 12, 13, 14, 15, 16, 17, 18, 19, 20, 21, 22, 23, 26, 27] [0, 1, 2, 3, 4, 5, 6, 7, 8, 9, 10, 11, 12, 13, 14, 15, 16, 17, 18, 19, 20, 21, 22, 23, 24, 25, 26, 27] (by kernel_rfl) (by kernel_rfl) (Below.refl _ _).drew ?_
          repeat
            apply wpSched_q rfl rfl
            case h =>
              intro w' hI K hK
              have k1' := (hI.cell (p := ⟨p, 1, none⟩) lp).trans k1
              have k2' := (hI.cell (p := ⟨p, 2, none⟩) lp).trans k2
              have k3' := (hI.cell (p := ⟨p, 3, none⟩) lp).trans k3
              simp only [quietV, stillV]
              go_simp
              exact hK
            go_simp
          repeat
            refine wpSched_r rfl rfl ?_ (Below.refl _ _).drew
            intro K hK hI
            go_simp
            refine hK _ _ hI ?_
            clear hK K hI
          repeat
            apply wpSched_q rfl rfl
            case h =>
              intro w' hI K hK
              have k1' := (hI.cell (p := ⟨p, 1, none⟩) lp).trans k1
              have k2' := (hI.cell (p := ⟨p, 2, none⟩) lp).trans k2
              have k3' := (hI.cell (p := ⟨p, 3, none⟩) lp).trans k3
              simp only [quietV, stillV]
              go_simp
              exact hK
            go_simp
          refine wpSched_nil ?_
          try simp only [List.drop_succ_cons, List.drop_zero, List.drop_nil]
          clear k0 k1 k2 k3 lp
          go_wp2
          go_ret
          exact ⟨by rw [← HFV.out]; simp, HB1.out.drew⟩
        | false =>
          rw [h2, Bool.not_false, Bool.true_and] at HFV
          obtain ⟨i, rfl, hi⟩ := inR_nat HBI.out
          have hil : i < ls.length := by omega
          have g1 : ls.getD ((i : Int)).toNat ⟨0, 0, 0, []⟩ = ls[i]'hil := (by rw [Int.toNat_natCast, List.getD_eq_getElem?_getD, List.getElem?_eq_getElem (by omega)]; rfl)
          rw [g1, Int.toNat_natCast] at HFV
          have n1 := HLX.out _ (List.getElem_mem hil)
          have hll1 := HLL.out.below HB1.out
          obtain ⟨b1, o1, A1, c1, e1, hb1, -, -, -, m1, hs1⟩ := hll1.at_ hil
          injection e1 with e1
          injection e1 with q1 q2
          subst q1 q2
          obtain ⟨X1, hX1⟩ : ∃ X, (ls[i]'hil).x = X := ⟨_, rfl⟩
          rw [hX1] at HFV n1 m1 hs1
          have HS1 := Lib.hid hs1
          have HL1 := Lib.hid hll1
          clear g1 hX1 hs1 hll1
          have HPR := Lib.hid (fun W (hW : Below w1.heap.size w1 W) => spec_l02Pre 5 _ X1 W (HS1.out.below hW) (by omega))
          obtain ⟨PX, hPX⟩ : ∃ X, ((5 : Int), (0 : Int)) :: X1 = X := ⟨_, rfl⟩
          have HPL : Hid (PX.length ≤ 2097153) := Lib.hid (by rw [← hPX]; simp; omega)
          rw [hPX] at HPR HFV
          clear hPX
          obtain ⟨eq, heq⟩ : ∃ b, decide (xs = PX) = b := ⟨_, rfl⟩
          rw [heq] at HFV
          have HEE := Lib.hid heq
          clear heq
          refine wp_region_sched (Below w1.heap.size w1) 28 [0, 1, 2, 3, 4, 5, 6, 7, 8, 9, 10, 11, 12, 13, 14, 15, 16, 17, 18, 19, 20, 21, 22, 23, 26, 27] [0, 1, 2, 3, 4, 5, 6, 7, 8, 9, 10, 11, 12, 13, 14, 15, 16, 17, 18, 19, 20, 21, 22, 23, 24, 25, 26, 27] (by kernel_rfl) (by kernel_rfl) (Below.refl _ _).drew ?_
          repeat
            apply wpSched_q rfl rfl
            case h =>
              intro w' hI K hK
              have k1' := (hI.cell (p := ⟨p, 1, none⟩) lp).trans k1
              have k2' := (hI.cell (p := ⟨p, 2, none⟩) lp).trans k2
              have k3' := (hI.cell (p := ⟨p, 3, none⟩) lp).trans k3
              have m1' := (hI.cell (p := ⟨bL, oL + i * 4 + 3, none⟩) hb1).trans m1
              simp only [quietV, stillV]
              go_simp
              exact hK
            go_simp
          refine wpSched_r rfl rfl ?_ (Below.refl _ _).drew
          intro K hK hI
          go_simp
          refine (HPR.out _ hI).mono ?_
          rintro e w2 ⟨u2, rfl, ho2, hb2⟩
          obtain ⟨A9, c9, rfl⟩ := ho2.opn
          have hI2 := hI.trans (hb2.mono hI.size)
          have HEQ := Lib.hid (spec_l02EqualQ _ _ xs PX w2 ((HX.out.below HB1.out).below hI2) ho2.sl (by omega) (by have := HPL.out; omega))
          rw [HEE.out] at HEQ
          refine hK _ _ hI2 ?_
          clear hK K hI hb2 ho2
          refine wpSched_r rfl rfl ?_ hI2
          intro K hK hI
          go_simp
          refine HEQ.out.mono ?_
          rintro e w3 ⟨rfl, hb3⟩
          have hI3 := hI.trans (hb3.mono hI.size)
          refine hK _ _ hI3 ?_
          clear hK K hI hb3 hI2 HEQ
          repeat
            apply wpSched_q rfl rfl
            case h =>
              intro w' hI K hK
              have k1' := (hI.cell (p := ⟨p, 1, none⟩) lp).trans k1
              have k2' := (hI.cell (p := ⟨p, 2, none⟩) lp).trans k2
              have k3' := (hI.cell (p := ⟨p, 3, none⟩) lp).trans k3
              simp only [quietV, stillV]
              go_simp
              exact hK
            go_simp
          refine wpSched_nil ?_
          try simp only [List.drop_succ_cons, List.drop_zero, List.drop_nil]
          cases eq with
          | false =>
            rw [Bool.false_and] at HFV
            have HE := Lib.hid (bthen HB1.out hI3)
            clear k0 k1 k2 k3 lp m1 hI3
            go_wp2
            go_ret
            exact ⟨by rw [← HFV.out]; simp, HE.out⟩
          | true =>
            rw [Bool.true_and] at HFV
            have HB3 := Lib.hid (bthen HB1.out hI3)
            replace k1 := (hI3.cell (p := ⟨p, 1, none⟩) lp).trans k1
            replace k2 := (hI3.cell (p := ⟨p, 2, none⟩) lp).trans k2
            replace k3 := (hI3.cell (p := ⟨p, 3, none⟩) lp).trans k3
            replace lp := Nat.lt_of_lt_of_le lp hI3.size
            have HLT := Lib.hid ((HL1.out.below hI3).take (k := k) (c' := cL) (by omega) (by have := HCP.out; omega) HCP.out.2)
            have HDP := Lib.hid (fun W (hW : Below w3.heap.size w3 W) => spec_l13Depends _ (ls.take k) W (HLT.out.below hW) (by rw [List.length_take]; omega) (fun i hi x hx => by
              rw [List.length_take] at hi
              rw [List.getElem_take] at hx
              exact fine_prm (HOK.out i (by omega) (by omega)) x hx))
            obtain ⟨hd1, hd2⟩ := dps_at ls k (by omega) hi
            have hem := dps_em ls k (by omega) i
            rw [← hd2] at hem
            have HEM := Lib.hid hem
            clear hem hd2
            clear m1 k0 hI3
            go_upto_region 18 with fail
            have hc1 := HCP.out.1
            have hc2 := HCP.out.2
            have hc3 : k ≤ cL := by omega
            refine wp_region_sched (Below w3.heap.size w3) 10 [0, 1, 2, 4, 5] [0, 1, 2, 4, 5, 3, 6, 7, 8, 9] (by kernel_rfl) (by kernel_rfl) (Below.refl _ _).drew ?_
            repeat
              apply wpSched_q rfl rfl
              case h =>
                intro w' hI K hK
                have k1' := (hI.cell (p := ⟨p, 1, none⟩) lp).trans k1
                have k2' := (hI.cell (p := ⟨p, 2, none⟩) lp).trans k2
                have k3' := (hI.cell (p := ⟨p, 3, none⟩) lp).trans k3
                simp only [quietV, stillV]
                go_simp
                exact hK
              go_simp
            refine wpSched_r rfl rfl ?_ (Below.refl _ _).drew
            intro K hK hI
            go_simp
            refine (HDP.out _ hI).mono ?_
            rintro e w4 ⟨u4, rfl, hu4, hb4⟩
            obtain ⟨A4, c4, rfl⟩ := hu4.opn
            have hI4 := hI.trans (hb4.mono hI.size)
            obtain ⟨b4, o4, Ai, ci, rfl, hb4l, m4, -⟩ := hu4.at_ hd1
            obtain ⟨D, hD⟩ : ∃ D, (dps (ls.take k))[i] = D := ⟨_, rfl⟩
            rw [hD] at m4
            have HN0 : Hid (((D.length : Int) == 0) = fv) := Lib.hid (by
              have := HEM.out
              rw [hD] at this
              rw [← HFV.out, ← this]
              cases D with
              | nil => rfl
              | cons x l => simp; omega)
            refine hK _ _ hI4 ?_
            clear hK K hI hb4 hu4 hD
            generalize D.length = nD at *
            refine wpSched_r rfl rfl ?_ hI4
            intro K hK hI
            go_simp
            refine hK _ _ hI ?_
            clear hK K hI
            refine wpSched_r rfl rfl ?_ hI4
            intro K hK hI
            go_simp
            refine hK _ _ hI ?_
            clear hK K hI
            refine wpSched_r rfl rfl ?_ hI4
            intro K hK hI
            go_simp
            refine hK _ _ hI ?_
            clear hK K hI
            refine wpSched_r rfl rfl ?_ hI4
            intro K hK hI
            go_simp
            rw [HN0.out]
            refine hK _ _ hI ?_
            clear hK K hI
            refine wpSched_nil ?_
            try simp only [List.drop_succ_cons, List.drop_zero, List.drop_nil]
            have HE := Lib.hid (HB3.out.trans (hI4.mono HB3.out.size))
            clear k1 k2 k3 lp m4 hI4 hb4l
            go_wp2
            go_ret
            exact ⟨rfl, HE.out⟩
  · rw [decide_eq_false hs] at HFV
    have hq : (s == 0) = false := by simpa using hs
    refine wp_region_sched (Below w1.heap.size w1) 28 [0, 1, 2, 3, 4, 5, 6, 7, 8, 9, 10, 11, 12, 13, 14, 15, 16, 17, 18, 19, 20, 21, 22, 23, 26, 27] [0, 1, 2, 3, 4, 5, 6, 7, 8, 9, 10, 11, 12, 13, 14, 15, 16, 17, 18, 19, 20, 21, 22, 23, 24, 25, 26, 27] (by kernel_rfl) (by kernel_rfl) (Below.refl _ _).drew ?_
    repeat
      apply wpSched_q rfl rfl
      case h =>
        intro w' hI K hK
        have k1' := (hI.cell (p := ⟨p, 1, none⟩) lp).trans k1
        have k2' := (hI.cell (p := ⟨p, 2, none⟩) lp).trans k2
        have k3' := (hI.cell (p := ⟨p, 3, none⟩) lp).trans k3
        simp only [quietV, stillV]
        go_simp
        exact hK
      go_simp
    repeat
      refine wpSched_r rfl rfl ?_ (Below.refl _ _).drew
      intro K hK hI
      go_simp
      refine hK _ _ hI ?_
      clear hK K hI
    repeat
      apply wpSched_q rfl rfl
      case h =>
        intro w' hI K hK
        have k1' := (hI.cell (p := ⟨p, 1, none⟩) lp).trans k1
        have k2' := (hI.cell (p := ⟨p, 2, none⟩) lp).trans k2
        have k3' := (hI.cell (p := ⟨p, 3, none⟩) lp).trans k3
        simp only [quietV, stillV]
        go_simp
        exact hK
      go_simp
    refine wpSched_nil ?_
    try simp only [List.drop_succ_cons, List.drop_zero, List.drop_nil]
    clear k0 k1 k2 k3 lp
    go_wp2
    go_ret
    exact ⟨by rw [← HFV.out]; simp, HB1.out.drew⟩
/-- is a line as in a proof? -/
theorem spec_l13Fine (t : List UInt8) (hy : List (List Nd)) (ls : List Ln) (k : Nat) (hk : k < ls.length) (vh vl : Value) (w : World) (hH : Sl2 cN w vh hy) (hhl : hy.length ≤ 1048576) (hhy : ∀ xs ∈ hy, xs.length ≤ 1048576) (hL : SlL w vl ls) (hll : ls.length ≤ 200) (hlx : ∀ l ∈ ls, l.x.length ≤ 1048576)
    (hok : ∀ i (h : i < ls.length), i < k → fine t hy ls i (ls[i]'h) = true) :
    Calls Tryz.prog 56 #[.string ⟨⟨t⟩⟩, vh, vl, .int .i64 (k : Int)] w fun e w' => e = .returned (.bool (fine t hy ls k (ls[k]'hk))) ∧ Below w.heap.size w w' := by
  obtain ⟨l, hl⟩ : ∃ l, ls[k] = l := ⟨_, rfl⟩
  obtain ⟨r, f, s, xs⟩ := l
  cases hF : isF xs with
  | false => exact spec_l13Fine_no t hy ls k hk vh vl w hH hhl hhy hL hll hlx hok r f s xs hl hF
  | true =>
    by_cases n1 : r = 1
    · subst n1; exact spec_l13Fine_sch t hy ls k hk vh vl w hH hhl hhy hL hll hlx hok f s xs hl hF
    by_cases n2 : r = 2
    · subst n2; exact spec_l13Fine_hyp t hy ls k hk vh vl w hH hhl hhy hL hll hlx hok f s xs hl hF
    by_cases n3 : r = 3
    · subst n3; exact spec_l13Fine_det t hy ls k hk vh vl w hH hhl hhy hL hll hlx hok f s xs hl hF
    by_cases n4 : r = 4
    · subst n4; exact spec_l13Fine_box t hy ls k hk vh vl w hH hhl hhy hL hll hlx hok f s xs hl hF
    exact spec_l13Fine_other t hy ls k hk vh vl w hH hhl hhy hL hll hlx hok r f s xs hl hF n1 n2 n3 n4
end Go.Proofs.YtcikenffeekkeaaGreatDoor

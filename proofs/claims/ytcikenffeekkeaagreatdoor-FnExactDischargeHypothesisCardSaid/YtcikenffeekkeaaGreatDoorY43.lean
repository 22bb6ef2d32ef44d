/- Contracts of the reference: is a line as in a proof? Hypotheses, detachment, boxes. Written by genS3G.py. -/
import Derived.Test.YtcikenffeekkeaaGreatDoorY42
namespace Go.Proofs.YtcikenffeekkeaaGreatDoor
open Go.RowKit
set_option linter.unusedVariables false
set_option linter.unusedSimpArgs false
set_option maxRecDepth 100000 in
set_option maxHeartbeats 4000000 in
theorem spec_l13Fine_hyp (t : List UInt8) (hy : List (List Nd)) (ls : List Ln) (k : Nat) (hk : k < ls.length) (vh vl : Value) (w : World) (hH : Sl2 cN w vh hy) (hhl : hy.length ≤ 1048576) (hhy : ∀ xs ∈ hy, xs.length ≤ 1048576) (hL : SlL w vl ls) (hll : ls.length ≤ 200) (hlx : ∀ l ∈ ls, l.x.length ≤ 1048576)
    (hok : ∀ i (h : i < ls.length), i < k → fine t hy ls i (ls[i]'h) = true) (f s : Int) (xs : List Nd) (hPk : ls[k] = ⟨2, f, s, xs⟩) (hF : isF xs = true) :
    Calls Tryz.prog 56 #[.string ⟨⟨t⟩⟩, vh, vl, .int .i64 (k : Int)] w fun e w' => e = .returned (.bool (fine t hy ls k (ls[k]'hk))) ∧ Below w.heap.size w w' := by
  have HLL := Lib.hid hL
  have HHH := Lib.hid hH
  have HOK := Lib.hid hok
  have hxk := hlx _ (List.getElem_mem hk)
  have HLX := Lib.hid hlx
  have HHY := Lib.hid hhy
  obtain ⟨AL, cL, rfl⟩ := hL.opn
  obtain ⟨Ah, ch, rfl⟩ := hH.opn
  have HCP := Lib.hid hL.capL
  obtain ⟨bL, oL, Ax, cx, rfl, hbL, l0, l1, l2, l3, hsx⟩ := hL.at_ hk
  rw [hPk] at hxk l0 l1 l2 l3 hsx ⊢
  simp only at hxk l0 l1 l2 l3 hsx
  have HX := Lib.hid hsx
  have hb1 := below_alloc' w (.cells #[.int .i64 2, .int .i64 f, .int .i64 s, .slice Ax xs.length cx] 46)
  have hkk := Blk.new w 46 #[.int .i64 2, .int .i64 f, .int .i64 s, .slice Ax xs.length cx]
  have HB1 := Lib.hid hb1
  obtain ⟨fv, hfv⟩ : ∃ b, fine t hy ls k ⟨2, f, s, xs⟩ = b := ⟨_, rfl⟩
  rw [hfv]
  unfold fine at hfv
  simp only at hfv
  have HFV := Lib.hid hfv
  have hwr : IntKind.i64.wrap ((k : Int) - 1) = (k : Int) - 1 := IntWalk.i64_in _ ⟨by omega, by omega⟩
  have HPK := Lib.hid hPk
  clear hL hH hok hlx hhy hsx hb1 hfv hPk
  go_enter Tryz.func56, Tryz.ntmps56
  go_upto_region 2 with fail
  clear l0 l1 l2 l3
  obtain ⟨w1, hw1⟩ : ∃ W, W = w.alloc (.cells #[.int .i64 2, .int .i64 f, .int .i64 s, .slice Ax xs.length cx] 46) := ⟨_, rfl⟩
  rw [← hw1] at hkk HB1 ⊢
  obtain ⟨p, hp⟩ : ∃ p, w.heap.size = p := ⟨_, rfl⟩
  have HPW : Hid (w.heap.size = p) := Lib.hid hp
  rw [hp] at hkk ⊢
  clear hw1 hp
  have k0 : w1.cell? ⟨p, 0, none⟩ = some (.int .i64 2) := hkk.cell 0
  have k1 : w1.cell? ⟨p, 1, none⟩ = some (.int .i64 f) := hkk.cell 1
  have k2 : w1.cell? ⟨p, 2, none⟩ = some (.int .i64 s) := hkk.cell 2
  have k3 : w1.cell? ⟨p, 3, none⟩ = some (.slice Ax xs.length cx) := hkk.cell 3
  have lp := hkk.lt
  clear hkk
  have HIS := Lib.hid (spec_l02Is _ xs w1 (HX.out.below HB1.out) (by omega))
  have HIN := Lib.hid (spec_l01In f 0 ((k : Int) - 1) w1)
  go_wp2_with fail
  refine HIS.out.mono ?_
  rintro e w1' ⟨rfl, rfl⟩
  clear HIS
  rw [hF, Bool.true_and] at HFV
  rw [hF]
  have HFN := Lib.hid hF
  go_wp2_with fail
  refine HIN.out.mono ?_
  rintro e w1' ⟨rfl, rfl⟩
  clear HIN
  rw [if_neg (by decide), if_pos trivial] at HFV
  generalize inR f 0 ((k : Int) - 1) = bi at *
  go_upto_region 9 with fail
  have hwr2 : IntKind.i64.wrap ((hy.length : Int) - 1) = (hy.length : Int) - 1 := IntWalk.i64_in _ ⟨by omega, by omega⟩
  have HI2 := Lib.hid (fun W => spec_l01In f 0 ((hy.length : Int) - 1) W)
  have HGet : Hid (inR f 0 ((hy.length : Int) - 1) = true → ∃ i : Nat, f = i ∧ i < hy.length) := Lib.hid fun h => inR_nat h
  refine wp_region_sched (Below w1.heap.size w1) 21 [0, 1, 2, 3, 4, 5, 6, 7, 8, 10, 11, 12, 13, 14, 15, 16, 17, 18, 20] [0, 1, 2, 3, 4, 5, 6, 7, 8, 9, 10, 11, 12, 13, 14, 15, 16, 17, 18, 19, 20] (by kernel_rfl) (by kernel_rfl) (Below.refl _ _).drew ?_
  by_cases hs : s = 0
  · subst hs
    rw [decide_eq_true rfl, Bool.true_and] at HFV
    repeat
      apply wpSched_q rfl rfl
      case h =>
        intro w' hI K hK
        have k1' := (hI.cell (p := ⟨p, 1, none⟩) lp).trans k1
        have k2' := (hI.cell (p := ⟨p, 2, none⟩) lp).trans k2
        have k3' := (hI.cell (p := ⟨p, 3, none⟩) lp).trans k3
        simp only [quietV, stillV]
        go_simp
        exact hK
      go_simp
    refine wpSched_r rfl rfl ?_ (Below.refl _ _).drew
    intro K hK hI
    go_simp
    refine (HI2.out _).mono ?_
    rintro e w2 ⟨rfl, rfl⟩
    refine hK _ _ hI ?_
    clear hK K hI
    cases hin : inR f 0 ((hy.length : Int) - 1) with
    | false =>
      rw [hin, Bool.false_and] at HFV
      repeat
        apply wpSched_q rfl rfl
        case h =>
          intro w' hI K hK
          have k1' := (hI.cell (p := ⟨p, 1, none⟩) lp).trans k1
          have k2' := (hI.cell (p := ⟨p, 2, none⟩) lp).trans k2
          have k3' := (hI.cell (p := ⟨p, 3, none⟩) lp).trans k3
          simp only [quietV, stillV]
          go_simp
          exact hK
        go_simp
      repeat
        refine wpSched_r rfl rfl ?_ (Below.refl _ _).drew
        intro K hK hI
        go_simp
        refine hK _ _ hI ?_
        clear hK K hI
      repeat
        apply wpSched_q rfl rfl
        case h =>
          intro w' hI K hK
          have k1' := (hI.cell (p := ⟨p, 1, none⟩) lp).trans k1
          have k2' := (hI.cell (p := ⟨p, 2, none⟩) lp).trans k2
          have k3' := (hI.cell (p := ⟨p, 3, none⟩) lp).trans k3
          simp only [quietV, stillV]
          go_simp
          exact hK
        go_simp
      refine wpSched_nil ?_
      try simp only [List.drop_succ_cons, List.drop_zero, List.drop_nil]
      clear k0 k1 k2 k3 lp
      go_wp2
      go_ret
      exact ⟨by rw [← HFV.out]; rfl, HB1.out.drew⟩
    | true =>
      rw [hin, Bool.true_and] at HFV
      obtain ⟨i, rfl, hi⟩ := HGet.out hin
      have hgd : hy.getD ((i : Int)).toNat [] = hy[i]'hi := by rw [Int.toNat_natCast, List.getD_eq_getElem?_getD, List.getElem?_eq_getElem hi]; rfl
      rw [hgd] at HFV
      have hni := HHY.out _ (List.getElem_mem hi)
      obtain ⟨bh, oh, Ai, ci, rfl, hbh, hch, hsh⟩ := (HHH.out.below HB1.out).atM hi
      have HEQ := Lib.hid (fun W (hW : Below w1.heap.size w1 W) => spec_l02EqualQ _ _ (hy[i]'hi) xs W (hsh.below hW) ((HX.out.below HB1.out).below hW) (by omega) (by omega))
      generalize (hy[i]'hi).length = ni at *
      generalize decide (hy[i]'hi = xs) = bb at *
      clear HGet hgd hsh hin
      repeat
        apply wpSched_q rfl rfl
        case h =>
          intro w' hI K hK
          have k1' := (hI.cell (p := ⟨p, 1, none⟩) lp).trans k1
          have k2' := (hI.cell (p := ⟨p, 2, none⟩) lp).trans k2
          have k3' := (hI.cell (p := ⟨p, 3, none⟩) lp).trans k3
          have hch' := (hI.cell (p := ⟨bh, oh + i, none⟩) hbh).trans hch
          simp only [quietV, stillV]
          go_simp
          exact hK
        go_simp
      refine wpSched_r rfl rfl ?_ (Below.refl _ _).drew
      intro K hK hI
      go_simp
      refine (HEQ.out _ hI).mono ?_
      rintro e w2 ⟨rfl, hb2⟩
      have hI2 := hI.trans (hb2.mono hI.size)
      refine hK _ _ hI2 ?_
      clear hK K hI hb2
      repeat
        apply wpSched_q rfl rfl
        case h =>
          intro w' hI K hK
          have k1' := (hI.cell (p := ⟨p, 1, none⟩) lp).trans k1
          have k2' := (hI.cell (p := ⟨p, 2, none⟩) lp).trans k2
          have k3' := (hI.cell (p := ⟨p, 3, none⟩) lp).trans k3
          simp only [quietV, stillV]
          go_simp
          exact hK
        go_simp
      refine wpSched_nil ?_
      try simp only [List.drop_succ_cons, List.drop_zero, List.drop_nil]
      have HE := Lib.hid (bthen HB1.out hI2)
      clear k0 k1 k2 k3 hch hI2 hwr
      go_wp2
      go_ret
      exact ⟨by rw [← HFV.out]; rfl, HE.out⟩
  · rw [decide_eq_false hs] at HFV
    have hq : (s == 0) = false := by simpa using hs
    repeat
      apply wpSched_q rfl rfl
      case h =>
        intro w' hI K hK
        have k1' := (hI.cell (p := ⟨p, 1, none⟩) lp).trans k1
        have k2' := (hI.cell (p := ⟨p, 2, none⟩) lp).trans k2
        have k3' := (hI.cell (p := ⟨p, 3, none⟩) lp).trans k3
        simp only [quietV, stillV]
        go_simp
        exact hK
      go_simp
    repeat
      refine wpSched_r rfl rfl ?_ (Below.refl _ _).drew
      intro K hK hI
      go_simp
      refine hK _ _ hI ?_
      clear hK K hI
    repeat
      apply wpSched_q rfl rfl
      case h =>
        intro w' hI K hK
        have k1' := (hI.cell (p := ⟨p, 1, none⟩) lp).trans k1
        have k2' := (hI.cell (p := ⟨p, 2, none⟩) lp).trans k2
        have k3' := (hI.cell (p := ⟨p, 3, none⟩) lp).trans k3
        simp only [quietV, stillV]
        go_simp
        exact hK
      go_simp
    repeat
      refine wpSched_r rfl rfl ?_ (Below.refl _ _).drew
      intro K hK hI
      go_simp
      refine hK _ _ hI ?_
      clear hK K hI
    repeat
      apply wpSched_q rfl rfl
      case h =>
        intro w' hI K hK
        have k1' := (hI.cell (p := ⟨p, 1, none⟩) lp).trans k1
        have k2' := (hI.cell (p := ⟨p, 2, none⟩) lp).trans k2
        have k3' := (hI.cell (p := ⟨p, 3, none⟩) lp).trans k3
        simp only [quietV, stillV]
        go_simp
        exact hK
      go_simp
    refine wpSched_nil ?_
    try simp only [List.drop_succ_cons, List.drop_zero, List.drop_nil]
    clear k0 k1 k2 k3 lp
    go_wp2
    go_ret
    exact ⟨by rw [← HFV.out]; simp, HB1.out.drew⟩
set_option maxRecDepth 100000 in
set_option maxHeartbeats 4000000 in
theorem spec_l13Fine_det (t : List UInt8) (hy : List (List Nd)) (ls : List Ln) (k : Nat) (hk : k < ls.length) (vh vl : Value) (w : World) (hH : Sl2 cN w vh hy) (hhl : hy.length ≤ 1048576) (hhy : ∀ xs ∈ hy, xs.length ≤ 1048576) (hL : SlL w vl ls) (hll : ls.length ≤ 200) (hlx : ∀ l ∈ ls, l.x.length ≤ 1048576)
    (hok : ∀ i (h : i < ls.length), i < k → fine t hy ls i (ls[i]'h) = true) (f s : Int) (xs : List Nd) (hPk : ls[k] = ⟨3, f, s, xs⟩) (hF : isF xs = true) :
    Calls Tryz.prog 56 #[.string ⟨⟨t⟩⟩, vh, vl, .int .i64 (k : Int)] w fun e w' => e = .returned (.bool (fine t hy ls k (ls[k]'hk))) ∧ Below w.heap.size w w' := by
  have HLL := Lib.hid hL
  have HHH := Lib.hid hH
  have HOK := Lib.hid hok
  have hxk := hlx _ (List.getElem_mem hk)
  have HLX := Lib.hid hlx
  have HHY := Lib.hid hhy
  obtain ⟨AL, cL, rfl⟩ := hL.opn
  obtain ⟨Ah, ch, rfl⟩ := hH.opn
  have HCP := Lib.hid hL.capL
  obtain ⟨bL, oL, Ax, cx, rfl, hbL, l0, l1, l2, l3, hsx⟩ := hL.at_ hk
  rw [hPk] at hxk l0 l1 l2 l3 hsx ⊢
  simp only at hxk l0 l1 l2 l3 hsx
  have HX := Lib.hid hsx
  have hb1 := below_alloc' w (.cells #[.int .i64 3, .int .i64 f, .int .i64 s, .slice Ax xs.length cx] 46)
  have hkk := Blk.new w 46 #[.int .i64 3, .int .i64 f, .int .i64 s, .slice Ax xs.length cx]
  have HB1 := Lib.hid hb1
  obtain ⟨fv, hfv⟩ : ∃ b, fine t hy ls k ⟨3, f, s, xs⟩ = b := ⟨_, rfl⟩
  rw [hfv]
  unfold fine at hfv
  simp only at hfv
  have HFV := Lib.hid hfv
  have hwr : IntKind.i64.wrap ((k : Int) - 1) = (k : Int) - 1 := IntWalk.i64_in _ ⟨by omega, by omega⟩
  have HPK := Lib.hid hPk
  clear hL hH hok hlx hhy hsx hb1 hfv hPk
  go_enter Tryz.func56, Tryz.ntmps56
  go_upto_region 2 with fail
  clear l0 l1 l2 l3
  obtain ⟨w1, hw1⟩ : ∃ W, W = w.alloc (.cells #[.int .i64 3, .int .i64 f, .int .i64 s, .slice Ax xs.length cx] 46) := ⟨_, rfl⟩
  rw [← hw1] at hkk HB1 ⊢
  obtain ⟨p, hp⟩ : ∃ p, w.heap.size = p := ⟨_, rfl⟩
  have HPW : Hid (w.heap.size = p) := Lib.hid hp
  rw [hp] at hkk ⊢
  clear hw1 hp
  have k0 : w1.cell? ⟨p, 0, none⟩ = some (.int .i64 3) := hkk.cell 0
  have k1 : w1.cell? ⟨p, 1, none⟩ = some (.int .i64 f) := hkk.cell 1
  have k2 : w1.cell? ⟨p, 2, none⟩ = some (.int .i64 s) := hkk.cell 2
  have k3 : w1.cell? ⟨p, 3, none⟩ = some (.slice Ax xs.length cx) := hkk.cell 3
  have lp := hkk.lt
  clear hkk
  have HIS := Lib.hid (spec_l02Is _ xs w1 (HX.out.below HB1.out) (by omega))
  have HIN := Lib.hid (spec_l01In f 0 ((k : Int) - 1) w1)
  go_wp2_with fail
  refine HIS.out.mono ?_
  rintro e w1' ⟨rfl, rfl⟩
  clear HIS
  rw [hF, Bool.true_and] at HFV
  rw [hF]
  have HFN := Lib.hid hF
  go_wp2_with fail
  refine HIN.out.mono ?_
  rintro e w1' ⟨rfl, rfl⟩
  clear HIN
  rw [if_neg (by decide), if_neg (by decide), if_pos trivial] at HFV
  have HJN := Lib.hid (spec_l01In s 0 ((k : Int) - 1) w1)
  cases hbi : inR f 0 ((k : Int) - 1) with
  | false =>
    rw [hbi, Bool.false_and, Bool.false_and] at HFV
    go_wp2
    go_ret
    exact ⟨by rw [← HFV.out]; rfl, HB1.out⟩
  | true =>
    rw [hbi, Bool.true_and] at HFV
    obtain ⟨i, rfl, hi⟩ := inR_nat hbi
    clear hbi
    go_wp2_with fail
    refine HJN.out.mono ?_
    rintro e w1' ⟨rfl, rfl⟩
    cases hbj : inR s 0 ((k : Int) - 1) with
    | false =>
      rw [hbj, Bool.false_and] at HFV
      clear HJN
      go_wp2
      go_ret
      exact ⟨by rw [← HFV.out]; rfl, HB1.out⟩
    | true =>
      rw [hbj, Bool.true_and] at HFV
      obtain ⟨j, rfl, hj⟩ := inR_nat hbj
      clear hbj HJN
      have hil : i < ls.length := by omega
      have hjl : j < ls.length := by omega
      have g1 : ls.getD ((i : Int)).toNat ⟨0, 0, 0, []⟩ = ls[i]'hil := (by rw [Int.toNat_natCast, List.getD_eq_getElem?_getD, List.getElem?_eq_getElem (by omega)]; rfl)
      have g2 : ls.getD ((j : Int)).toNat ⟨0, 0, 0, []⟩ = ls[j]'hjl := (by rw [Int.toNat_natCast, List.getD_eq_getElem?_getD, List.getElem?_eq_getElem (by omega)]; rfl)
      rw [g1, g2] at HFV
      have n1 := HLX.out _ (List.getElem_mem hil)
      have n2 := HLX.out _ (List.getElem_mem hjl)
      have hll1 := HLL.out.below HB1.out
      obtain ⟨b1, o1, A1, c1, e1, hb1, -, -, -, m1, hs1⟩ := hll1.at_ hil
      obtain ⟨b2, o2, A2, c2, e2, -, -, -, -, m2, hs2⟩ := hll1.at_ hjl
      injection e1 with e1
      injection e1 with q1 q2
      subst q1 q2
      injection e2 with e2
      injection e2 with q1 q2
      subst q1 q2
      obtain ⟨X1, hX1⟩ : ∃ X, (ls[i]'hil).x = X := ⟨_, rfl⟩
      obtain ⟨X2, hX2⟩ : ∃ X, (ls[j]'hjl).x = X := ⟨_, rfl⟩
      rw [hX1] at HFV n1 m1 hs1
      rw [hX2] at HFV n2 m2 hs2
      have HS1 := Lib.hid hs1
      have HS2 := Lib.hid hs2
      clear g1 g2 hX1 hX2 hs1 hs2 hll1
      go_upto_region 14 with fail
      have HPR := Lib.hid (fun W (hW : Below w1.heap.size w1 W) => spec_l02Pair 4 _ _ X2 xs W (HS2.out.below hW) ((HX.out.below HB1.out).below hW) (by omega) (by omega))
      obtain ⟨PX, hPX⟩ : ∃ X, [((4 : Int), (0 : Int))] ++ X2 ++ xs = X := ⟨_, rfl⟩
      have HPL : Hid (PX.length ≤ 2097153) := Lib.hid (by rw [← hPX]; simp; omega)
      have HDE : Hid (decide (X1 = PX) = fv) := Lib.hid (by rw [← HFV.out, ← hPX]; rfl)
      rw [hPX] at HPR
      clear hPX
      refine wp_region_sched (Below w1.heap.size w1) 11 [0, 1, 2, 3, 4, 5, 6, 7, 8] [0, 1, 2, 3, 4, 5, 6, 7, 8, 9, 10] (by kernel_rfl) (by kernel_rfl) (Below.refl _ _).drew ?_
      repeat
        apply wpSched_q rfl rfl
        case h =>
          intro w' hI K hK
          have k1' := (hI.cell (p := ⟨p, 1, none⟩) lp).trans k1
          have k2' := (hI.cell (p := ⟨p, 2, none⟩) lp).trans k2
          have k3' := (hI.cell (p := ⟨p, 3, none⟩) lp).trans k3
          have m1' := (hI.cell (p := ⟨bL, oL + i * 4 + 3, none⟩) hb1).trans m1
          simp only [quietV, stillV]
          go_simp
          exact hK
        go_simp
      refine wpSched_r rfl rfl ?_ (Below.refl _ _).drew
      intro K hK hI
      go_simp
      refine (HPR.out _ hI).mono ?_
      rintro e w2 ⟨u2, rfl, ho2, hb2⟩
      obtain ⟨A9, c9, rfl⟩ := ho2.opn
      have hI2 := hI.trans (hb2.mono hI.size)
      have HEQ := Lib.hid (spec_l02EqualQ _ _ X1 PX w2 (HS1.out.below hI2) ho2.sl (by omega) (by have := HPL.out; omega))
      refine hK _ _ hI2 ?_
      clear hK K hI hb2 ho2
      refine wpSched_r rfl rfl ?_ hI2
      intro K hK hI
      go_simp
      refine HEQ.out.mono ?_
      rintro e w3 ⟨rfl, hb3⟩
      have hI3 := hI.trans (hb3.mono hI.size)
      refine hK _ _ hI3 ?_
      clear hK K hI hb3 hI2 HEQ
      refine wpSched_nil ?_
      try simp only [List.drop_succ_cons, List.drop_zero, List.drop_nil]
      have HE := Lib.hid (bthen HB1.out hI3)
      rw [HDE.out]
      clear k0 k1 k2 k3 m1 m2 hI3 hwr
      go_wp2
      go_ret
      exact ⟨rfl, HE.out⟩
end Go.Proofs.YtcikenffeekkeaaGreatDoor

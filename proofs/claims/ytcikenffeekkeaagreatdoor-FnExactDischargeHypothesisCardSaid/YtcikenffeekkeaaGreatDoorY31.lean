/- Contracts of the program: is a line right behind some lines? -/
import Derived.Test.YtcikenffeekkeaaGreatDoorY30
namespace Go.Proofs.YtcikenffeekkeaaGreatDoor
open Go.RowKit
set_option linter.unusedVariables false
set_option linter.unusedSimpArgs false
set_option maxRecDepth 100000 in
set_option maxHeartbeats 2000000 in
theorem impl_isGood (D : Nat) (t : List UInt8) (hy : List (List Nd)) (ls : List Ln) (k : Nat) (hk : k < ls.length) (vh vl vu : Value) (w : World) (hT : TabS w) (hD : Blk w D 85 #[.string ⟨⟨t⟩⟩, vh, vl, vu]) (hH : Sl2 cN w vh hy) (hhl : hy.length ≤ 1048576) (hhy : ∀ xs ∈ hy, xs.length ≤ 1048576)
    (hL : SlL w vl ls) (hll : ls.length ≤ 1048576) (hlx : ∀ l ∈ ls, l.x.length ≤ 1048576) (hpr : ∀ i (h : i < ls.length), i < k → (ls[i]'h).x.length ≤ 40) (hU : UsR w vu (flgs (ls.take k))) :
    Calls Tryz.prog 65 #[.pointer (some ⟨D, 0, none⟩), .int .i64 (k : Int)] w fun e w' => e = .returned (.bool (fine t hy ls k (ls[k]'hk))) ∧ Below w.heap.size w w' := by
  by_cases h4 : (ls[k]'hk).r = 4
  · exact impl_isGood_box D t hy ls k hk vh vl vu w hT hD hH hhl hhy hL hll hlx hpr hU h4
  obtain ⟨Al, cl, rfl⟩ := hL.opn
  obtain ⟨Au, cu, rfl⟩ := hU.opn
  have hb0 := below_alloc' w (.cells #[.int .i64 (k : Int)] 3)
  have HKb := Lib.hid (Blk.new w 3 #[.int .i64 (k : Int)])
  have HD := Lib.hid (hD.below hb0 hD.lt)
  have HH := Lib.hid (hH.below hb0)
  have HL := Lib.hid (hL.below hb0)
  have HU := Lib.hid (hU.below hb0)
  have HT := Lib.hid (hT.below hb0)
  have HB := Lib.hid hb0
  clear hD hH hL hU hT hb0
  have d2 := HD.out.cell 2
  have ld := HD.out.lt
  have kb0 := HKb.out.cell 0
  have lb := HKb.out.lt
  obtain ⟨bl, ol, Ai, ci, rfl, hbl, hr, hf, hs, hx, hxs⟩ := HL.out.at_ hk
  have hxl := hlx _ (List.getElem_mem hk)
  have HLX := Lib.hid hlx
  have HPR := Lib.hid hpr
  obtain ⟨⟨r, f, s, x⟩, hlk⟩ : ∃ l, ls[k]'hk = l := ⟨_, rfl⟩
  rw [hlk] at h4
  simp only at h4
  have HLK := Lib.hid hlk
  rw [hlk] at hr hf hs hx hxs hxl ⊢
  simp only at hr hf hs hx hxs hxl
  clear hlk hlx hpr
  obtain ⟨bb, hbb⟩ : ∃ bb, fine t hy ls k ⟨r, f, s, x⟩ = bb := ⟨_, rfl⟩
  have HV := Lib.hid hbb
  rw [hbb]
  clear hbb
  go_enter Tryz.func65, Tryz.ntmps65
  go_upto_region 1 with fail
  generalize World.alloc w _ = w1 at *
  refine wp_region_sched (Below w1.heap.size w1) 8 [0, 1, 2, 3, 4, 5, 6] [0, 1, 2, 3, 4, 5, 6, 7] (by kernel_rfl) (by kernel_rfl) (Below.refl _ _).drew ?_
  repeat
    apply wpSched_q rfl rfl
    case h =>
      intro w' hI K hK
      have kb0' := (hI.cell (p := ⟨w.heap.size, 0, none⟩) lb).trans kb0
      have d2' := (hI.cell (p := ⟨D, 2, none⟩) ld).trans d2
      have hr' := (hI.cell (p := ⟨bl, ol + k * 4, none⟩) hbl).trans hr
      have hf' := (hI.cell (p := ⟨bl, ol + k * 4 + 1, none⟩) hbl).trans hf
      have hs' := (hI.cell (p := ⟨bl, ol + k * 4 + 2, none⟩) hbl).trans hs
      have hx' := (hI.cell (p := ⟨bl, ol + k * 4 + 3, none⟩) hbl).trans hx
      simp only [quietV, stillV]
      go_simp
      exact hK
    go_simp
  refine wpSched_r rfl rfl ?_ (Below.refl _ _).drew
  intro K hK hI
  go_simp
  have hIa : Below w1.heap.size w1 (w1.alloc (.cells #[.int .i64 0, .int .i64 0, .int .i64 0, .slice none 0 0] 46)).drew := ((Below.refl _ _).alloc (Nat.le_refl _) _).drew
  refine hK _ _ hIa ?_
  have hkl : Blk (w1.alloc (.cells #[.int .i64 0, .int .i64 0, .int .i64 0, .slice none 0 0] 46)).drew w1.heap.size 46 #[.int .i64 0, .int .i64 0, .int .i64 0, .slice none 0 0] := Blk.new w1 46 #[.int .i64 0, .int .i64 0, .int .i64 0, .slice none 0 0]
  clear hK K hI
  refine wpSched_nil ?_
  try simp only [List.drop_succ_cons, List.drop_zero, List.drop_nil]
  generalize World.drew _ = w2 at *
  have z0 := hkl.cell 0
  have z1 := hkl.cell 1
  have z2 := hkl.cell 2
  have z3 := hkl.cell 3
  have zf := hkl.frozen
  have zl := hkl.lt
  clear kb0 d2
  go_upto_region 2 with fail
  have hkl3 : Blk _ w1.heap.size 46 #[.int .i64 r, .int .i64 f, .int .i64 s, .slice Ai x.length ci] := (((hkl.set_ 0 (.int .i64 r)).set_ 1 (.int .i64 f)).set_ 2 (.int .i64 s)).set_ 3 (.slice Ai x.length ci)
  have hI3 := (((hIa.setCell (p := ⟨w1.heap.size, 0, none⟩) (Nat.le_refl _) (.int .i64 r)).setCell (p := ⟨w1.heap.size, 1, none⟩) (Nat.le_refl _) (.int .i64 f)).setCell (p := ⟨w1.heap.size, 2, none⟩) (Nat.le_refl _) (.int .i64 s)).setCell (p := ⟨w1.heap.size, 3, none⟩) (Nat.le_refl _) (.slice Ai x.length ci)
  clear z0 z1 z2 z3 zf zl hkl hIa hr hf hs hx
  generalize World.setCell _ ⟨w1.heap.size, 3, none⟩ _ = w3 at *
  have hB3 := bthen HB.out hI3
  have HB3 := Lib.hid hB3
  replace HKb := Lib.hid (HKb.out.below hI3 HKb.out.lt)
  replace HD := Lib.hid (HD.out.below hI3 HD.out.lt)
  replace HH := Lib.hid (HH.out.below hI3)
  replace HL := Lib.hid (HL.out.below hI3)
  replace HU := Lib.hid (HU.out.below hI3)
  replace HT := Lib.hid (HT.out.below hI3)
  have HX := Lib.hid (hxs.below hI3)
  have HK3 := Lib.hid hkl3
  obtain ⟨G, hG⟩ : ∃ G, w1.heap.size = G := ⟨_, rfl⟩
  rw [hG] at HK3 ⊢
  clear hI3 hB3 hxs hkl3 hbl ld lb HB hG
  have n0 := HK3.out.cell 0
  have n1 := HK3.out.cell 1
  have n2 := HK3.out.cell 2
  have n3 := HK3.out.cell 3
  have nl := HK3.out.lt
  have d2 := HD.out.cell 2
  have ld := HD.out.lt
  have HIF := Lib.hid (impl_isFormula _ x w3 HX.out (by omega))
  cases hF : isF x with
  | false =>
    rw [hF] at HIF
    have HR : Hid (bb = false) := Lib.hid (by rw [← HV.out]; unfold fine; simp only; rw [hF, Bool.false_and])
    go_wp2_with fail
    refine HIF.out.mono ?_
    rintro e w4 ⟨rfl, hb⟩
    have HE := Lib.hid (bthen HB3.out hb)
    clear hb n0 n1 n2 n3 d2
    go_wp2
    go_ret
    exact ⟨by rw [HR.out]; rfl, HE.out⟩
  | true =>
  rw [hF] at HIF
  obtain ⟨g, hgok, rfl, hgl⟩ := (isF_iff x).1 hF
  have HVF : Hid ((if r = 1 then decide (s = 0) && ((sysS t).getD []).contains f && instX f (enc g) else if r = 2 then decide (s = 0) && inR f 0 ((hy.length : Int) - 1) && decide (hy.getD f.toNat [] = enc g)
      else if r = 3 then inR f 0 ((k : Int) - 1) && inR s 0 ((k : Int) - 1) && decide ((ls.getD f.toNat ⟨0, 0, 0, []⟩).x = (4, 0) :: ((ls.getD s.toNat ⟨0, 0, 0, []⟩).x ++ enc g))
      else if r = 4 then modal t && decide (s = 0) && inR f 0 ((k : Int) - 1) && decide (enc g = (5, 0) :: (ls.getD f.toNat ⟨0, 0, 0, []⟩).x) && !((flgs (ls.take k)).getD f.toNat false) else false) = bb) := Lib.hid (by rw [← HV.out]; unfold fine; simp only; rw [hF, Bool.true_and])
  go_wp2_with fail
  refine HIF.out.mono ?_
  rintro e w4 ⟨rfl, hb⟩
  have hB4 := bthen HB3.out hb
  have HB4 := Lib.hid hB4
  replace HKb := Lib.hid (HKb.out.below hb HKb.out.lt)
  replace HD := Lib.hid (HD.out.below hb HD.out.lt)
  replace HH := Lib.hid (HH.out.below hb)
  replace HL := Lib.hid (HL.out.below hb)
  replace HU := Lib.hid (HU.out.below hb)
  replace HT := Lib.hid (HT.out.below hb)
  replace HX := Lib.hid (HX.out.below hb)
  replace HK3 := Lib.hid (HK3.out.below hb HK3.out.lt)
  clear hb hB4 n0 n1 n2 n3 nl d2 ld HIF HB3
  have n0 := HK3.out.cell 0
  have n1 := HK3.out.cell 1
  have n2 := HK3.out.cell 2
  have n3 := HK3.out.cell 3
  have nl := HK3.out.lt
  have d2 := HD.out.cell 2
  have d0 := HD.out.cell 0
  have d3 := HD.out.cell 3
  have ld := HD.out.lt
  have HAx := Lib.hid (impl_isAxiomatic D t hy ⟨r, f, s, enc g⟩ g vh _ _ Ai ci w4 HT.out HD.out HH.out hhl hhy rfl (by omega) HX.out)
  have HG1 := Lib.hid (fun y W (hW : Below w4.heap.size w4 W) => impl_isGood_1 y k w.heap.size W (Nat.lt_of_lt_of_le HKb.out.lt hW.size) ((hW.cell (p := ⟨w.heap.size, 0, none⟩) HKb.out.lt).trans (HKb.out.cell 0)) (by omega))
  have HIN : Hid (∀ y, inR y 0 ((k : Int) - 1) = true → ∃ i : Nat, y = i ∧ i < k) := Lib.hid fun y h => by
    unfold inR at h
    simp only [Bool.and_eq_true, decide_eq_true_eq] at h
    exact ⟨y.toNat, by omega, by omega⟩
  have HGT : Hid (∀ i (h : i < ls.length), ls.getD ((i : Nat) : Int).toNat ⟨0, 0, 0, []⟩ = ls[i]'h) := Lib.hid fun i h => by rw [Int.toNat_natCast, List.getD_eq_getElem?_getD, List.getElem?_eq_getElem h]; rfl
  clear HV
  by_cases h1 : r = 1
  · subst h1
    have HVA : Hid (axP t hy ⟨1, f, s, enc g⟩ = bb) := Lib.hid (by
      rw [← HVF.out, if_pos rfl]
      unfold axP
      simp only
      rw [if_neg (by decide), Bool.and_assoc])
    rw [HVA.out] at HAx
    clear HVF HVA HG1 d0 d3 d2
    go_wp2_with fail
    refine HAx.out.mono ?_
    rintro e w5 ⟨rfl, hb⟩
    have HE := Lib.hid (bthen HB4.out hb)
    clear hb n0 n1 n2 n3
    go_wp2
    go_ret
    exact ⟨rfl, HE.out⟩
  by_cases h2 : r = 2
  · subst h2
    have HVA : Hid (axP t hy ⟨2, f, s, enc g⟩ = bb) := Lib.hid (by
      rw [← HVF.out, if_neg (by decide), if_pos rfl]
      unfold axP
      simp only
      rw [if_pos trivial, Bool.and_assoc])
    rw [HVA.out] at HAx
    clear HVF HVA HG1 d0 d3 d2
    go_wp2_with fail
    refine HAx.out.mono ?_
    rintro e w5 ⟨rfl, hb⟩
    have HE := Lib.hid (bthen HB4.out hb)
    clear hb n0 n1 n2 n3
    go_wp2
    go_ret
    exact ⟨rfl, HE.out⟩
  clear HAx
  by_cases h3 : r = 3
  · subst h3
    have hvf := HVF.out
    rw [if_neg (by decide), if_neg (by decide), if_pos rfl] at hvf
    clear HVF d0 d3
    go_upto_region 10 with fail
    cases hb1 : inR f 0 ((k : Int) - 1) with
    | false =>
      rw [hb1, Bool.false_and, Bool.false_and] at hvf
      have HR := Lib.hid hvf
      clear hvf
      refine wp_region_sched (Below w4.heap.size w4) 34 [0, 1, 2, 4, 5, 6, 7, 9, 10, 11, 12, 13, 14, 15, 16, 17, 18, 19, 20, 21, 22, 23, 24, 25, 26, 27, 28, 29, 30, 33] [0, 1, 2, 3, 4, 5, 6, 7, 8, 9, 10, 11, 12, 13, 14, 15, 16, 17, 18, 19, 20, 21, 22, 23, 24, 25, 26, 27, 28, 29, 30, 31, 32, 33] (by kernel_rfl) (by kernel_rfl) (Below.refl _ _).drew ?_
      repeat
        apply wpSched_q rfl rfl
        case h =>
          intro w' hI K hK
          have n1' := (hI.cell (p := ⟨G, 1, none⟩) nl).trans n1
          have n2' := (hI.cell (p := ⟨G, 2, none⟩) nl).trans n2
          have n3' := (hI.cell (p := ⟨G, 3, none⟩) nl).trans n3
          have d2' := (hI.cell (p := ⟨D, 2, none⟩) ld).trans d2
          simp only [quietV, stillV]
          go_simp
          exact hK
        go_simp
      refine wpSched_r rfl rfl ?_ (Below.refl _ _).drew
      intro K hK hI
      go_simp
      refine (hb1 ▸ HG1.out f _ hI).mono ?_
      rintro e wa ⟨rfl, rfl⟩
      refine hK _ _ hI ?_
      clear hK K hI
      repeat
        apply wpSched_q rfl rfl
        case h =>
          intro w' hI K hK
          have n1' := (hI.cell (p := ⟨G, 1, none⟩) nl).trans n1
          have n2' := (hI.cell (p := ⟨G, 2, none⟩) nl).trans n2
          have n3' := (hI.cell (p := ⟨G, 3, none⟩) nl).trans n3
          have d2' := (hI.cell (p := ⟨D, 2, none⟩) ld).trans d2
          simp only [quietV, stillV]
          go_simp
          exact hK
        go_simp
      repeat
        refine wpSched_r rfl rfl ?_ (Below.refl _ _).drew
        intro K hK hI
        go_simp
        refine hK _ _ hI ?_
        clear hK K hI
      repeat
        apply wpSched_q rfl rfl
        case h =>
          intro w' hI K hK
          have n1' := (hI.cell (p := ⟨G, 1, none⟩) nl).trans n1
          have n2' := (hI.cell (p := ⟨G, 2, none⟩) nl).trans n2
          have n3' := (hI.cell (p := ⟨G, 3, none⟩) nl).trans n3
          have d2' := (hI.cell (p := ⟨D, 2, none⟩) ld).trans d2
          simp only [quietV, stillV]
          go_simp
          exact hK
        go_simp
      repeat
        refine wpSched_r rfl rfl ?_ (Below.refl _ _).drew
        intro K hK hI
        go_simp
        refine hK _ _ hI ?_
        clear hK K hI
      repeat
        apply wpSched_q rfl rfl
        case h =>
          intro w' hI K hK
          have n1' := (hI.cell (p := ⟨G, 1, none⟩) nl).trans n1
          have n2' := (hI.cell (p := ⟨G, 2, none⟩) nl).trans n2
          have n3' := (hI.cell (p := ⟨G, 3, none⟩) nl).trans n3
          have d2' := (hI.cell (p := ⟨D, 2, none⟩) ld).trans d2
          simp only [quietV, stillV]
          go_simp
          exact hK
        go_simp
      refine wpSched_nil ?_
      try simp only [List.drop_succ_cons, List.drop_zero, List.drop_nil]
      clear n0 n1 n2 n3 d2
      go_wp2
      go_ret
      exact ⟨by rw [← HR.out]; rfl, HB4.out.drew⟩
    | true =>
      cases hb2 : inR s 0 ((k : Int) - 1) with
      | false =>
        rw [hb1, hb2, Bool.true_and, Bool.false_and] at hvf
        have HR := Lib.hid hvf
        clear hvf
        refine wp_region_sched (Below w4.heap.size w4) 34 [0, 1, 2, 4, 5, 6, 7, 9, 10, 11, 12, 13, 14, 15, 16, 17, 18, 19, 20, 21, 22, 23, 24, 25, 26, 27, 28, 29, 30, 33] [0, 1, 2, 3, 4, 5, 6, 7, 8, 9, 10, 11, 12, 13, 14, 15, 16, 17, 18, 19, 20, 21, 22, 23, 24, 25, 26, 27, 28, 29, 30, 31, 32, 33] (by kernel_rfl) (by kernel_rfl) (Below.refl _ _).drew ?_
        repeat
          apply wpSched_q rfl rfl
          case h =>
            intro w' hI K hK
            have n1' := (hI.cell (p := ⟨G, 1, none⟩) nl).trans n1
            have n2' := (hI.cell (p := ⟨G, 2, none⟩) nl).trans n2
            have n3' := (hI.cell (p := ⟨G, 3, none⟩) nl).trans n3
            have d2' := (hI.cell (p := ⟨D, 2, none⟩) ld).trans d2
            simp only [quietV, stillV]
            go_simp
            exact hK
          go_simp
        refine wpSched_r rfl rfl ?_ (Below.refl _ _).drew
        intro K hK hI
        go_simp
        refine (hb1 ▸ HG1.out f _ hI).mono ?_
        rintro e wa ⟨rfl, rfl⟩
        refine hK _ _ hI ?_
        clear hK K hI
        repeat
          apply wpSched_q rfl rfl
          case h =>
            intro w' hI K hK
            have n1' := (hI.cell (p := ⟨G, 1, none⟩) nl).trans n1
            have n2' := (hI.cell (p := ⟨G, 2, none⟩) nl).trans n2
            have n3' := (hI.cell (p := ⟨G, 3, none⟩) nl).trans n3
            have d2' := (hI.cell (p := ⟨D, 2, none⟩) ld).trans d2
            simp only [quietV, stillV]
            go_simp
            exact hK
          go_simp
        refine wpSched_r rfl rfl ?_ (Below.refl _ _).drew
        intro K hK hI
        go_simp
        refine (hb2 ▸ HG1.out s _ hI).mono ?_
        rintro e wa ⟨rfl, rfl⟩
        refine hK _ _ hI ?_
        clear hK K hI
        repeat
          apply wpSched_q rfl rfl
          case h =>
            intro w' hI K hK
            have n1' := (hI.cell (p := ⟨G, 1, none⟩) nl).trans n1
            have n2' := (hI.cell (p := ⟨G, 2, none⟩) nl).trans n2
            have n3' := (hI.cell (p := ⟨G, 3, none⟩) nl).trans n3
            have d2' := (hI.cell (p := ⟨D, 2, none⟩) ld).trans d2
            simp only [quietV, stillV]
            go_simp
            exact hK
          go_simp
        repeat
          refine wpSched_r rfl rfl ?_ (Below.refl _ _).drew
          intro K hK hI
          go_simp
          refine hK _ _ hI ?_
          clear hK K hI
        repeat
          apply wpSched_q rfl rfl
          case h =>
            intro w' hI K hK
            have n1' := (hI.cell (p := ⟨G, 1, none⟩) nl).trans n1
            have n2' := (hI.cell (p := ⟨G, 2, none⟩) nl).trans n2
            have n3' := (hI.cell (p := ⟨G, 3, none⟩) nl).trans n3
            have d2' := (hI.cell (p := ⟨D, 2, none⟩) ld).trans d2
            simp only [quietV, stillV]
            go_simp
            exact hK
          go_simp
        refine wpSched_nil ?_
        try simp only [List.drop_succ_cons, List.drop_zero, List.drop_nil]
        clear n0 n1 n2 n3 d2
        go_wp2
        go_ret
        exact ⟨by rw [← HR.out]; rfl, HB4.out.drew⟩
      | true =>
        obtain ⟨i, rfl, hi⟩ := HIN.out f hb1
        obtain ⟨j, rfl, hj⟩ := HIN.out s hb2
        have hil : i < ls.length := by omega
        have hjl : j < ls.length := by omega
        rw [hb1, hb2, Bool.true_and, Bool.true_and, HGT.out i hil, HGT.out j hjl] at hvf
        have hxi := HPR.out i hil hi
        have hxj := HPR.out j hjl hj
        obtain ⟨b1, o1, A1, c1, e1, hbl1, -, -, -, hci, hsi⟩ := HL.out.at_ hil
        obtain ⟨b2, o2, A2, c2, e2, hbl2, -, -, -, hcj, hsj⟩ := HL.out.at_ hjl
        injection e1 with e1
        injection e1 with e1 e1'
        subst e1 e1'
        injection e2 with e2
        injection e2 with e2 e2'
        subst e2 e2'
        generalize (ls[i]'hil).x = xi at *
        generalize (ls[j]'hjl).x = xj at *
        obtain ⟨ys, hys⟩ : ∃ ys : List Nd, [(4, 0)] ++ xj ++ enc g = ys := ⟨_, rfl⟩
        have hyl : ys.length ≤ 1000 := by rw [← hys]; simp only [List.length_append, List.length_cons, List.length_nil]; omega
        have HR : Hid (decide (xi = ys) = bb) := Lib.hid (by rw [← hys]; exact hvf)
        have HJ : Hid (∀ W, Below w4.heap.size w4 W → Calls Tryz.prog 86 #[.int .i64 4, .slice A2 xj.length c2, .slice Ai (enc g).length ci] W fun e w' => ∃ r, e = .returned r ∧ Ow cN 75 W.heap.size w' r ys ∧ Below W.heap.size W w') := Lib.hid (fun W hW => by
          rw [← hys]
          exact impl_join 4 _ _ xj (enc g) W (hsj.below hW) (HX.out.below hW) (by omega) (by omega))
        clear hvf hbl2 hys
        refine wp_region_sched (Below w4.heap.size w4) 34 [0, 1, 2, 4, 5, 6, 7, 9, 10, 11, 12, 13, 14, 15, 16, 17, 18, 19, 20, 21, 22, 23, 24, 25, 26, 27, 28, 29, 30, 33] [0, 1, 2, 3, 4, 5, 6, 7, 8, 9, 10, 11, 12, 13, 14, 15, 16, 17, 18, 19, 20, 21, 22, 23, 24, 25, 26, 27, 28, 29, 30, 31, 32, 33] (by kernel_rfl) (by kernel_rfl) (Below.refl _ _).drew ?_
        repeat
          apply wpSched_q rfl rfl
          case h =>
            intro w' hI K hK
            have n1' := (hI.cell (p := ⟨G, 1, none⟩) nl).trans n1
            have n2' := (hI.cell (p := ⟨G, 2, none⟩) nl).trans n2
            have n3' := (hI.cell (p := ⟨G, 3, none⟩) nl).trans n3
            have d2' := (hI.cell (p := ⟨D, 2, none⟩) ld).trans d2
            simp only [quietV, stillV]
            go_simp
            exact hK
          go_simp
        refine wpSched_r rfl rfl ?_ (Below.refl _ _).drew
        intro K hK hI
        go_simp
        refine (hb1 ▸ HG1.out i _ hI).mono ?_
        rintro e wa ⟨rfl, rfl⟩
        refine hK _ _ hI ?_
        clear hK K hI
        repeat
          apply wpSched_q rfl rfl
          case h =>
            intro w' hI K hK
            have n1' := (hI.cell (p := ⟨G, 1, none⟩) nl).trans n1
            have n2' := (hI.cell (p := ⟨G, 2, none⟩) nl).trans n2
            have n3' := (hI.cell (p := ⟨G, 3, none⟩) nl).trans n3
            have d2' := (hI.cell (p := ⟨D, 2, none⟩) ld).trans d2
            simp only [quietV, stillV]
            go_simp
            exact hK
          go_simp
        refine wpSched_r rfl rfl ?_ (Below.refl _ _).drew
        intro K hK hI
        go_simp
        refine (hb2 ▸ HG1.out j _ hI).mono ?_
        rintro e wa ⟨rfl, rfl⟩
        refine hK _ _ hI ?_
        clear hK K hI
        repeat
          apply wpSched_q rfl rfl
          case h =>
            intro w' hI K hK
            have n1' := (hI.cell (p := ⟨G, 1, none⟩) nl).trans n1
            have n2' := (hI.cell (p := ⟨G, 2, none⟩) nl).trans n2
            have n3' := (hI.cell (p := ⟨G, 3, none⟩) nl).trans n3
            have d2' := (hI.cell (p := ⟨D, 2, none⟩) ld).trans d2
            have hci' := (hI.cell (p := ⟨bl, ol + i * 4 + 3, none⟩) hbl1).trans hci
            have hcj' := (hI.cell (p := ⟨bl, ol + j * 4 + 3, none⟩) hbl1).trans hcj
            simp only [quietV, stillV]
            go_simp
            exact hK
          go_simp
        refine wpSched_r rfl rfl ?_ (Below.refl _ _).drew
        intro K hK hI
        go_simp
        refine (HJ.out _ hI).mono ?_
        rintro e wa ⟨ra, rfl, hoa, hba⟩
        obtain ⟨Aa, ca, rfl⟩ := hoa.opn
        have hI2 := hI.trans (hba.mono hI.size)
        refine hK _ _ hI2 ?_
        clear hK K hI hba
        refine wpSched_r rfl rfl ?_ hI2
        intro K hK hI
        go_simp
        refine (impl_same _ _ xi _ _ (hsi.below hI) hoa.sl (by omega) (by omega)).mono ?_
        rintro e wb ⟨rfl, hbb⟩
        rw [HR.out]
        have hI3 := hI.trans (hbb.mono hI.size)
        refine hK _ _ hI3 ?_
        clear hK K hI hbb
        have HE := Lib.hid (bthen HB4.out hI3)
        repeat
          apply wpSched_q rfl rfl
          case h =>
            intro w' hI K hK
            simp only [quietV, stillV]
            go_simp
            exact hK
          go_simp
        refine wpSched_nil ?_
        try simp only [List.drop_succ_cons, List.drop_zero, List.drop_nil]
        clear n0 n1 n2 n3 d2 hI2 hI3 hci hcj hoa hsi hsj
        go_wp2
        go_ret
        exact ⟨rfl, HE.out⟩
  have e1 : (r == 1) = false := by simpa using h1
  have e2 : (r == 2) = false := by simpa using h2
  have e3 : (r == 3) = false := by simpa using h3
  have e4 : (r == 4) = false := by simpa using h4
  have hvf := HVF.out
  rw [if_neg h1, if_neg h2, if_neg h3, if_neg h4] at hvf
  have HR := Lib.hid hvf
  clear HVF hvf h1 h2 h3 h4 HG1 d0 d2 d3
  go_wp2
  go_ret
  exact ⟨by rw [← HR.out]; rfl, HB4.out⟩
end Go.Proofs.YtcikenffeekkeaaGreatDoor

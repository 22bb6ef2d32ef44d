/- Contracts of the program: the premises of the rule for a formula of the left side. -/
import Derived.Test.YtaigiopoogbbbaaGreatY32
namespace Go.Proofs.YtaigiopoogbbbaaGreat
open Go.RowKit
set_option linter.unusedVariables false
set_option linter.unusedSimpArgs false
set_option maxRecDepth 100000 in
set_option maxHeartbeats 1000000 in
theorem impl_taken (C L : List Fm) (c f : Fm) (A : Option Addr) (n k : Nat) (va : Value) (w : World) (hg : GC C L c) (hf : f ∈ L) (hFl : .fls ∉ L) (h : Sl cS w (.slice A n k) (L.map txt)) (ha : Sl cN w va (enc f)) :
    Calls Tryz.prog 83 #[.agg #[.slice A n k, .string (txt c)], .string (txt f), va] w fun e w' => TkR C L c f w w' e := by
  have hlen := hg.len
  have hfC := (hg.gd.2.1 _ hf).2
  have haok := hg.cc.ok _ hfC
  have hapl := hg.cc.pl _ hfC
  have hash := hg.cc.sh _ hfC
  have hb0 := below_alloc' w (.cells #[.slice A n k, .string (txt c)] 80)
  have HK0 := Lib.hid (Blk.new w 80 #[.slice A n k, .string (txt c)])
  obtain ⟨A1, c1, rfl⟩ := ha.opn
  have HL0 := Lib.hid (h.below hb0)
  have HA0 := Lib.hid (ha.below hb0)
  have HB0 := Lib.hid hb0
  have HG := Lib.hid hg
  have HF := Lib.hid hf
  have HI := Lib.hid (fun W (M : List Fm) B m z (hM : M.length ≤ 2) (h1 : Sl cS W (.slice A n k) (L.map txt)) (h2 : Sl cS W (.slice B m z) (M.map txt)) => impl_insteadF A B n k m z (txt c) L M f W h1 h2 (by omega))
  have HIm := Lib.hid (fun a d (hf : Fm.bin .imp a d ∈ L) W va vd (h1 : Sl cS W (.slice A n k) (L.map txt)) (h2 : Sl cN W va (enc a)) (h3 : Sl cN W vd (enc d)) => impl_implied C L c a d A n k va vd W hg hf h1 h2 h3)
  have HP := Lib.hid (fun W (hW : Sl cN W (.slice A1 (enc f).length c1) (enc f)) => impl_partTexts f _ W hW (by omega) haok)
  clear hb0 h ha hg hlen
  go_enter Tryz.func83, Tryz.ntmps83
  go_upto_region 1 with fail
  generalize World.alloc w _ = w0 at *
  go_wp2_with fail
  refine (HP.out _ HA0.out).mono ?_
  rintro e w1 ⟨r, rfl, hp, hb1⟩
  obtain ⟨Ap, cp, rfl⟩ := hp.opn
  rw [List.length_map] at hp ⊢
  have HL := Lib.hid (HL0.out.below hb1)
  have HA := Lib.hid (HA0.out.below hb1)
  have HB := Lib.hid (bthen HB0.out hb1)
  have HK := Lib.hid (HK0.out.below hb1 HK0.out.lt)
  have HPS := Lib.hid hp.sl
  clear HL0 HA0 HB0 HK0 hp hb1 HP
  have k0 := HK.out.cell 0
  have k1 := HK.out.cell 1
  have l1 := HK.out.lt
  have hpp := enc_pos f
  cases f with
  | fls => exact absurd hf hFl
  | var s =>
    obtain ⟨b, o, rfl, hb, hc⟩ := HA.out.cell (k := 0) hpp
    have hc0 : w1.cell? ⟨b, o, none⟩ = some (.int .i64 0) := hc 0 _ rfl
    clear hc k0 k1 l1 hf
    go_wp2
    go_ret2
    exact ⟨HB.out, .inl ⟨_, _, _, rfl, .inl ⟨s, rfl⟩⟩⟩
  | un kk x => simp [Fm.plain] at hapl
  | bin kk x y =>
    obtain ⟨hxC, hyC⟩ := HG.out.cc.cl.bin _ _ _ hfC
    have HF1 := Lib.hid (show (kids (.bin kk x y)).length = 2 from rfl)
    rw [HF1.out]
    have PS : Hid (Sl cS w1 (.slice Ap 2 cp) ([x, y].map txt)) := Lib.hid HPS.out
    cases kk with
    | and =>
      obtain ⟨b, o, rfl, hb, hc⟩ := HA.out.cell (k := 0) hpp
      have hc0 : w1.cell? ⟨b, o, none⟩ = some (.int .i64 2) := hc 0 _ rfl
      clear hc hf HPS
      go_wp2_with fail
      refine (HI.out _ [x, y] _ _ _ (by simp) HL.out PS.out).mono ?_
      rintro e w2 ⟨A9, c9, rfl, hs, hb2⟩
      have HB2 := Lib.hid (bthen HB.out hb2)
      have HS := Lib.hid hs
      clear hs hb2 k0 k1 l1 hc0 hb
      go_wp2
      go_ret2
      exact ⟨HB2.out.alloc HB2.out.size _, .inr ⟨_, _, _, _, rfl, GlR.one HS.out _ _ rfl, by simp, prm_and HG.out.cc.ok HG.out.cc.cl HG.out.gd HF.out⟩⟩
    | or =>
      obtain ⟨b, o, rfl, hb, hc⟩ := HA.out.cell (k := 0) hpp
      have hc0 : w1.cell? ⟨b, o, none⟩ = some (.int .i64 3) := hc 0 _ rfl
      obtain ⟨bp, op, rfl, hbp, hcp⟩ := PS.out.cell (k := 0) (by simp)
      have hp0 : w1.cell? ⟨bp, op, none⟩ = some (.string (txt x)) := hcp 0 _ rfl
      obtain ⟨bp', op', e1, hbp', hcp1⟩ := PS.out.cell (k := 1) (by simp)
      injection e1 with e1
      injection e1 with e2 e3 _
      subst e2 e3
      have hp1 : w1.cell? ⟨bp, op + 1, none⟩ = some (.string (txt y)) := hcp1 0 _ rfl
      clear hc hf HPS hcp hcp1 hbp'
      go_upto_region 6 with fail
      refine wp_region_tree (Below w1.heap.size w1) 14 (.q 0 (.q 1 (.q 2 (.q 3 (.q 4 (.q 7 (.q 8 (.q 9 (.q 10 (.q 11 (.rr 5 12 (.rr 6 12 (.r 12 (.r 13 .fin)) (.r 6 (.r 13 .fin))) (.r 5 (.r 6 (.r 13 .fin)))))))))))))) (by kernel_rfl) (by kernel_rfl) (Below.refl _ _).drew ?_
      repeat
        apply wpT_q rfl
        case h =>
          intro w' hI K hK
          have k0' := (hI.cell (p := ⟨w.heap.size, 0, none⟩) l1).trans k0
          have k1' := (hI.cell (p := ⟨w.heap.size, 1, none⟩) l1).trans k1
          have hp0' := (hI.cell (p := ⟨bp, op, none⟩) hbp).trans hp0
          have hp1' := (hI.cell (p := ⟨bp, op + 1, none⟩) hbp).trans hp1
          simp only [quietV, stillV]
          go_simp
          exact hK
        go_simp
      have hI0 : Below w1.heap.size w1 w1.drew := (Below.refl _ _).drew
      have hb0 := hb
      clear hb
      generalize World.drew w1 = va at *
      refine wpT_rr rfl rfl ?_ ?_ hI0
      · intro K hK hI
        go_simp
        have hM5 := Sl.txt1 va x 9 _ rfl
        have hb := (Below.refl va.heap.size va).alloc (Nat.le_refl _) (.cells #[.string (txt x)] 9)
        have hJ1 := hI.trans (hb.mono hI.size)
        refine hK _ _ hJ1 ?_
        clear hK K hI hb
        generalize World.alloc va _ = v1 at *
        refine wpT_rr rfl rfl ?_ ?_ hJ1
        · intro K hK hI
          go_simp
          refine (HI.out v1 [x] _ _ _ (by simp) (HL.out.below hI) hM5).mono ?_
          rintro e v2 ⟨A6, c6, rfl, hs6, hb⟩
          have hJ2 := hI.trans (hb.mono hI.size)
          replace hM5 := hM5.below hb
          refine hK _ _ hJ2 ?_
          clear hK K hI hb
          refine wpT_r rfl ?_ hJ2
          intro K hK hI
          go_simp
          have hM12 := Sl.txt1 v2 y 9 _ rfl
          have hb := (Below.refl v2.heap.size v2).alloc (Nat.le_refl _) (.cells #[.string (txt y)] 9)
          have hJ3 := hI.trans (hb.mono hI.size)
          replace hM5 := hM5.below hb
          replace hs6 := hs6.below hb
          refine hK _ _ hJ3 ?_
          clear hK K hI hb
          generalize World.alloc v2 _ = v3 at *
          refine wpT_r rfl ?_ hJ3
          intro K hK hI
          go_simp
          refine (HI.out v3 [y] _ _ _ (by simp) (HL.out.below hI) hM12).mono ?_
          rintro e v4 ⟨A13, c13, rfl, hs13, hb⟩
          have hJ4 := hI.trans (hb.mono hI.size)
          replace hM5 := hM5.below hb
          replace hs6 := hs6.below hb
          replace hM12 := hM12.below hb
          refine hK _ _ hJ4 ?_
          clear hK K hI hb
          refine wpT_fin ?_
          try simp only [List.drop_succ_cons, List.drop_zero, List.drop_nil]
          have HE := Lib.hid (bthen HB.out hJ4)
          have HS6 := Lib.hid hs6
          have HS13 := Lib.hid hs13
          clear hs6 hs13 hM5 hM12 k0 k1 l1 hc0 hp0 hp1 hb0 hbp HI hJ4
          go_wp2
          go_ret2
          exact ⟨HE.out.alloc HE.out.size _, .inr ⟨_, _, _, _, rfl, GlR.two HS6.out HS13.out _ _ rfl, by simp, prm_or HG.out.cc.ok HG.out.cc.cl HG.out.gd HF.out⟩⟩
        · intro K hK hI
          go_simp
          have hM12 := Sl.txt1 v1 y 9 _ rfl
          have hb := (Below.refl v1.heap.size v1).alloc (Nat.le_refl _) (.cells #[.string (txt y)] 9)
          have hJ5 := hI.trans (hb.mono hI.size)
          replace hM5 := hM5.below hb
          refine hK _ _ hJ5 ?_
          clear hK K hI hb
          generalize World.alloc v1 _ = v5 at *
          refine wpT_r rfl ?_ hJ5
          intro K hK hI
          go_simp
          refine (HI.out v5 [x] _ _ _ (by simp) (HL.out.below hI) hM5).mono ?_
          rintro e v6 ⟨A6, c6, rfl, hs6, hb⟩
          have hJ6 := hI.trans (hb.mono hI.size)
          replace hM5 := hM5.below hb
          replace hM12 := hM12.below hb
          refine hK _ _ hJ6 ?_
          clear hK K hI hb
          refine wpT_r rfl ?_ hJ6
          intro K hK hI
          go_simp
          refine (HI.out v6 [y] _ _ _ (by simp) (HL.out.below hI) hM12).mono ?_
          rintro e v7 ⟨A13, c13, rfl, hs13, hb⟩
          have hJ7 := hI.trans (hb.mono hI.size)
          replace hM5 := hM5.below hb
          replace hM12 := hM12.below hb
          replace hs6 := hs6.below hb
          refine hK _ _ hJ7 ?_
          clear hK K hI hb
          refine wpT_fin ?_
          try simp only [List.drop_succ_cons, List.drop_zero, List.drop_nil]
          have HE := Lib.hid (bthen HB.out hJ7)
          have HS6 := Lib.hid hs6
          have HS13 := Lib.hid hs13
          clear hs6 hs13 hM5 hM12 k0 k1 l1 hc0 hp0 hp1 hb0 hbp HI hJ7
          go_wp2
          go_ret2
          exact ⟨HE.out.alloc HE.out.size _, .inr ⟨_, _, _, _, rfl, GlR.two HS6.out HS13.out _ _ rfl, by simp, prm_or HG.out.cc.ok HG.out.cc.cl HG.out.gd HF.out⟩⟩
      · intro K hK hI
        go_simp
        have hM12 := Sl.txt1 va y 9 _ rfl
        have hb := (Below.refl va.heap.size va).alloc (Nat.le_refl _) (.cells #[.string (txt y)] 9)
        have hJ8 := hI.trans (hb.mono hI.size)
        refine hK _ _ hJ8 ?_
        clear hK K hI hb
        generalize World.alloc va _ = v8 at *
        refine wpT_r rfl ?_ hJ8
        intro K hK hI
        go_simp
        have hM5 := Sl.txt1 v8 x 9 _ rfl
        have hb := (Below.refl v8.heap.size v8).alloc (Nat.le_refl _) (.cells #[.string (txt x)] 9)
        have hJ9 := hI.trans (hb.mono hI.size)
        replace hM12 := hM12.below hb
        refine hK _ _ hJ9 ?_
        clear hK K hI hb
        generalize World.alloc v8 _ = v9 at *
        refine wpT_r rfl ?_ hJ9
        intro K hK hI
        go_simp
        refine (HI.out v9 [x] _ _ _ (by simp) (HL.out.below hI) hM5).mono ?_
        rintro e v10 ⟨A6, c6, rfl, hs6, hb⟩
        have hJ10 := hI.trans (hb.mono hI.size)
        replace hM12 := hM12.below hb
        replace hM5 := hM5.below hb
        refine hK _ _ hJ10 ?_
        clear hK K hI hb
        refine wpT_r rfl ?_ hJ10
        intro K hK hI
        go_simp
        refine (HI.out v10 [y] _ _ _ (by simp) (HL.out.below hI) hM12).mono ?_
        rintro e v11 ⟨A13, c13, rfl, hs13, hb⟩
        have hJ11 := hI.trans (hb.mono hI.size)
        replace hM12 := hM12.below hb
        replace hM5 := hM5.below hb
        replace hs6 := hs6.below hb
        refine hK _ _ hJ11 ?_
        clear hK K hI hb
        refine wpT_fin ?_
        try simp only [List.drop_succ_cons, List.drop_zero, List.drop_nil]
        have HE := Lib.hid (bthen HB.out hJ11)
        have HS6 := Lib.hid hs6
        have HS13 := Lib.hid hs13
        clear hs6 hs13 hM5 hM12 k0 k1 l1 hc0 hp0 hp1 hb0 hbp HI hJ11
        go_wp2
        go_ret2
        exact ⟨HE.out.alloc HE.out.size _, .inr ⟨_, _, _, _, rfl, GlR.two HS6.out HS13.out _ _ rfl, by simp, prm_or HG.out.cc.ok HG.out.cc.cl HG.out.gd HF.out⟩⟩
    | imp =>
      obtain ⟨b, o, rfl, hb, hc⟩ := HA.out.cell (k := 0) hpp
      have hc0 : w1.cell? ⟨b, o, none⟩ = some (.int .i64 4) := hc 0 _ rfl
      clear hc hf HPS
      go_upto_region 8 with fail
      refine wp_region_sched (Below w1.heap.size w1) 9 [0, 1, 2, 4, 7, 8] [0, 1, 2, 4, 3, 5, 6, 7, 8] (by kernel_rfl) (by kernel_rfl) (Below.refl _ _).drew ?_
      repeat
        apply wpSched_q rfl rfl
        case h =>
          intro w' hI K hK
          have k0' := (hI.cell (p := ⟨w.heap.size, 0, none⟩) l1).trans k0
          have k1' := (hI.cell (p := ⟨w.heap.size, 1, none⟩) l1).trans k1
          simp only [quietV, stillV]
          go_simp
          exact hK
        go_simp
      refine wpSched_r rfl rfl ?_ (Below.refl _ _).drew
      intro K hK hI
      go_simp
      refine (fstF .imp x y _ _ (HA.out.below hI) (by omega)).mono ?_
      rintro e wa ⟨Ax, cx, rfl, hx, rfl⟩
      refine hK _ _ hI ?_
      clear hK K hI
      refine wpSched_r rfl rfl ?_ (Below.refl _ _).drew
      intro K hK hI
      go_simp
      refine (sndF .imp x y _ _ (HA.out.below hI) (by omega)).mono ?_
      rintro e wa ⟨Ay, cy, rfl, hy, rfl⟩
      refine hK _ _ hI ?_
      clear hK K hI
      refine wpSched_r rfl rfl ?_ (Below.refl _ _).drew
      intro K hK hI
      go_simp
      refine (HIm.out x y HF.out _ _ _ (HL.out.below hI) hx hy).mono ?_
      rintro e wa ⟨hb2, hT⟩
      have hIa := hI.trans (hb2.mono hI.size)
      have HE := Lib.hid (bthen HB.out hIa)
      rcases hT with ⟨A', n', k', rfl, hi⟩ | ⟨A', n', k', gs, rfl, hgl, hl2, hpr⟩
      · refine hK _ _ hIa ?_
        clear hK K hI
        repeat
          apply wpSched_q rfl rfl
          case h =>
            intro w' hI K hK
            simp only [quietV, stillV]
            go_simp
            exact hK
          go_simp
        refine wpSched_nil ?_
        try simp only [List.drop_succ_cons, List.drop_zero, List.drop_nil]
        clear hIa hb2 hx hy k0 k1 l1 hc0 hb
        go_wp2
        go_ret2
        exact ⟨HE.out, .inl ⟨_, _, _, rfl, hi⟩⟩
      · refine hK _ _ hIa ?_
        clear hK K hI
        repeat
          apply wpSched_q rfl rfl
          case h =>
            intro w' hI K hK
            simp only [quietV, stillV]
            go_simp
            exact hK
          go_simp
        refine wpSched_nil ?_
        try simp only [List.drop_succ_cons, List.drop_zero, List.drop_nil]
        have HGL := Lib.hid hgl
        have HPR := Lib.hid hpr
        clear hIa hb2 hx hy k0 k1 l1 hc0 hb hgl hpr
        go_wp2
        go_ret2
        exact ⟨HE.out, .inr ⟨_, _, _, _, rfl, HGL.out, hl2, HPR.out⟩⟩
end Go.Proofs.YtaigiopoogbbbaaGreat

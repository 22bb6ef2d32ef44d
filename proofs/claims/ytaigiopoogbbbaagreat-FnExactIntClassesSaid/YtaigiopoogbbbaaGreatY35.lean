/- Contracts of the program: what is tried where there may be several ways. -/
import Derived.Test.YtaigiopoogbbbaaGreatY34
namespace Go.Proofs.YtaigiopoogbbbaaGreat
open Go.RowKit Go.Maps
set_option linter.unusedVariables false
set_option linter.unusedSimpArgs false
set_option maxRecDepth 100000 in
theorem impl_tries_1 (C : List Fm) (D M m : Nat) (HP : PrL C D M m) (L : List Fm) (c p : Fm) (A : Option Addr) (n k gd gg : Nat) (w0 w : World) (G0 : List (List Fm × Fm)) (hg : GC C L p) (hm : gsw (L, p) < m) (hS : StM C D M m G0 w0 w) (hs : Sl cS w (.slice A n k) (L.map txt))
    (hgd : gd < w.heap.size) (hcd : w.cell? ⟨gd, 0, none⟩ = some (.pointer (some ⟨D, 0, none⟩))) (hgg : gg < w.heap.size) (hc0 : w.cell? ⟨gg, 0, none⟩ = some (.slice A n k)) (hc1 : w.cell? ⟨gg, 1, none⟩ = some (.string (txt c))) :
    Calls Tryz.prog 96 #[.string (txt p), .pointer (some ⟨gd, 0, none⟩), .pointer (some ⟨gg, 0, none⟩)] w fun e w' => e = .returned (.bool (vlB L p)) ∧ StM C D M m G0 w0 w' := by
  have HC := Lib.hid (fun W (hW : Below w.heap.size w W) => HP L p A n k w0 W G0 hg hm (hS.below hW) (hs.below hW))
  clear HP hg hS hs
  generalize vlB L p = b at *
  go_enter Tryz.func96, Tryz.ntmps96
  go_upto_region 1 with fail
  refine wp_region_sched (Below w.heap.size w) 4 [0, 1, 2] [0, 1, 2, 3] (by kernel_rfl) (by kernel_rfl) (Below.refl _ _).drew ?_
  repeat
    apply wpSched_q rfl rfl
    case h =>
      intro w' hI K hK
      have hcd' := (hI.cell (p := ⟨gd, 0, none⟩) hgd).trans hcd
      have hc0' := (hI.cell (p := ⟨gg, 0, none⟩) hgg).trans hc0
      have hc1' := (hI.cell (p := ⟨gg, 1, none⟩) hgg).trans hc1
      simp only [quietV, stillV]
      go_simp
      exact hK
    go_simp
  refine wpSched_r rfl rfl ?_ (Below.refl _ _).drew
  intro K hK hI
  go_simp
  refine (impl_proving A n k (txt c) (txt p) _).mono ?_
  rintro e wa ⟨rfl, hb⟩
  have hIa := hI.trans (hb.mono hI.size)
  refine hK _ _ hIa ?_
  clear hK K hI hb
  refine wpSched_nil ?_
  try simp only [List.drop_succ_cons, List.drop_zero, List.drop_nil]
  have HC1 := Lib.hid (HC.out _ hIa)
  clear HC hcd hc0 hc1 hIa
  go_wp2_with fail
  refine HC1.out.mono ?_
  rintro e w2 ⟨rfl, hS2⟩
  have HS := Lib.hid hS2
  clear hS2
  go_wp2
  go_ret
  exact ⟨rfl, HS.out⟩
set_option maxRecDepth 100000 in
set_option maxHeartbeats 1000000 in
theorem impl_tries_2 (C : List Fm) (D M m : Nat) (HP : PrL C D M m) (L : List Fm) (c f : Fm) (A : Option Addr) (n k gd gg : Nat) (w0 w : World) (G0 : List (List Fm × Fm)) (hg : GC C L c) (hm : gsw (L, c) = m) (hf : f ∈ L) (hS : StM C D M m G0 w0 w) (hs : Sl cS w (.slice A n k) (L.map txt))
    (hgd : gd < w.heap.size) (hcd : w.cell? ⟨gd, 0, none⟩ = some (.pointer (some ⟨D, 0, none⟩))) (hgg : gg < w.heap.size) (hc0 : w.cell? ⟨gg, 0, none⟩ = some (.slice A n k)) (hc1 : w.cell? ⟨gg, 1, none⟩ = some (.string (txt c))) :
    Calls Tryz.prog 97 #[.string (txt f), .pointer (some ⟨gd, 0, none⟩), .pointer (some ⟨gg, 0, none⟩)] w fun e w' => e = .returned (.bool (chB L c f)) ∧ StM C D M m G0 w0 w' := by
  have hlen := hg.len
  have hfC := (hg.gd.2.1 _ hf).2
  have hok := hg.cc.ok _ hfC
  have hpl := hg.cc.pl _ hfC
  have hsh := hg.cc.sh _ hfC
  have HG := Lib.hid hg
  have HF := Lib.hid hf
  have HPP := Lib.hid HP
  have HS0 := Lib.hid hS
  have HL0 := Lib.hid hs
  have HTr := Lib.hid (impl_treeOf f w hok (by have := txt_120 f; omega))
  clear hg HP hS hs
  go_enter Tryz.func97, Tryz.ntmps97
  go_wp2_with fail
  refine HTr.out.mono ?_
  rintro e w1 ⟨r, rfl, ho, hb⟩
  obtain ⟨A1, c1, rfl⟩ := ho.opn
  have HA := Lib.hid ho.sl
  have HS1 := Lib.hid (HS0.out.below hb)
  have HL := Lib.hid (HL0.out.below hb)
  replace hcd := (hb.cell (p := ⟨gd, 0, none⟩) hgd).trans hcd
  replace hc0 := (hb.cell (p := ⟨gg, 0, none⟩) hgg).trans hc0
  replace hc1 := (hb.cell (p := ⟨gg, 1, none⟩) hgg).trans hc1
  have hz := hb.size
  replace hgd := Nat.lt_of_lt_of_le hgd hz
  replace hgg := Nat.lt_of_lt_of_le hgg hz
  have hpp := enc_pos f
  clear ho hb hz HTr HS0 HL0
  cases f with
  | var s =>
    obtain ⟨b, o, rfl, hb, hc⟩ := HA.out.cell (k := 0) hpp
    have hcc : w1.cell? ⟨b, o, none⟩ = some (.int .i64 0) := hc 0 _ rfl
    clear hc hcd hc0 hc1
    go_wp2
    go_ret
    exact ⟨rfl, HS1.out⟩
  | fls =>
    obtain ⟨b, o, rfl, hb, hc⟩ := HA.out.cell (k := 0) hpp
    have hcc : w1.cell? ⟨b, o, none⟩ = some (.int .i64 1) := hc 0 _ rfl
    clear hc hcd hc0 hc1
    go_wp2
    go_ret
    exact ⟨rfl, HS1.out⟩
  | un kk x => simp [Fm.plain] at hpl
  | bin kk a d =>
    obtain ⟨haC, hdC⟩ := HG.out.cc.cl.bin _ _ _ hfC
    have haok := HG.out.cc.ok _ haC
    have hapl := HG.out.cc.pl _ haC
    have hash := HG.out.cc.sh _ haC
    have hdok := HG.out.cc.ok _ hdC
    have hdsh := HG.out.cc.sh _ hdC
    obtain ⟨b, o, rfl, hb, hc⟩ := HA.out.cell (k := 0) hpp
    cases kk with
    | and =>
      have hcc : w1.cell? ⟨b, o, none⟩ = some (.int .i64 2) := hc 0 _ rfl
      clear hc hcd hc0 hc1
      go_wp2
      go_ret
      exact ⟨rfl, HS1.out⟩
    | or =>
      have hcc : w1.cell? ⟨b, o, none⟩ = some (.int .i64 3) := hc 0 _ rfl
      clear hc hcd hc0 hc1
      go_wp2
      go_ret
      exact ⟨rfl, HS1.out⟩
    | imp =>
      have hcc : w1.cell? ⟨b, o, none⟩ = some (.int .i64 4) := hc 0 _ rfl
      clear hc
      have HCD := Lib.hid hcd
      have HC0 := Lib.hid hc0
      have HC1 := Lib.hid hc1
      have HN := Lib.hid HS1.out.no
      clear hcd hc0 hc1
      go_wp2_with fail
      refine (fstF .imp a d _ _ HA.out (by omega)).mono ?_
      rintro e w2 ⟨Aa, ca, rfl, hx, rfl⟩
      have HX := Lib.hid hx
      have hp2 := enc_pos a
      clear hx
      cases a with
      | var s =>
        obtain ⟨b2, o2, rfl, hb2, hc2⟩ := HX.out.cell (k := 0) hp2
        have hcc2 : w1.cell? ⟨b2, o2, none⟩ = some (.int .i64 0) := hc2 0 _ rfl
        clear hc2
        go_wp2
        go_ret
        exact ⟨rfl, HS1.out⟩
      | fls =>
        obtain ⟨b2, o2, rfl, hb2, hc2⟩ := HX.out.cell (k := 0) hp2
        have hcc2 : w1.cell? ⟨b2, o2, none⟩ = some (.int .i64 1) := hc2 0 _ rfl
        clear hc2
        go_wp2
        go_ret
        exact ⟨rfl, HS1.out⟩
      | un kk x => simp [Fm.plain] at hapl
      | bin k2 x y =>
        obtain ⟨b2, o2, rfl, hb2, hc2⟩ := HX.out.cell (k := 0) hp2
        cases k2 with
        | and =>
          have hcc2 : w1.cell? ⟨b2, o2, none⟩ = some (.int .i64 2) := hc2 0 _ rfl
          clear hc2
          go_wp2
          go_ret
          exact ⟨rfl, HS1.out⟩
        | or =>
          have hcc2 : w1.cell? ⟨b2, o2, none⟩ = some (.int .i64 3) := hc2 0 _ rfl
          clear hc2
          go_wp2
          go_ret
          exact ⟨rfl, HS1.out⟩
        | imp =>
          have hcc2 : w1.cell? ⟨b2, o2, none⟩ = some (.int .i64 4) := hc2 0 _ rfl
          clear hc2
          obtain ⟨hyC0, hbC0⟩ := HG.out.cc.cl.bin _ _ _ haC
          have hyok := HG.out.cc.ok _ hbC0
          have hysh := HG.out.cc.sh _ hbC0
          have hzC := HG.out.cc.cl.ii _ _ _ hfC
          have hzok := HG.out.cc.ok _ hzC
          have hzsh := HG.out.cc.sh _ hzC
          obtain ⟨hG1, hm1⟩ := cho_gd1 HG.out.cc.ok HG.out.cc.cl HG.out.gd HF.out
          obtain ⟨hG2, hm2⟩ := cho_gd2 HG.out.cc.ok HG.out.cc.cl HG.out.gd HF.out
          have hsm := HG.out.sm
          have HI := Lib.hid (fun W (M : List Fm) B m z (hM : M.length ≤ 2) (h1 : Sl cS W (.slice A n k) (L.map txt)) (h2 : Sl cS W (.slice B m z) (M.map txt)) => impl_insteadF A B n k m z (txt c) L M (.bin .imp (.bin .imp x y) d) W h1 h2 (by omega))
          obtain ⟨G1, hS1, hre⟩ := HS1.out.re
          have HRE := Lib.hid hre
          have HST := Lib.hid hS1
          clear hS1 hre HS1
          have HP1 := Lib.hid (fun A9 c9 W hS hs => HPP.out (nw L (.bin .imp (.bin .imp x y) d) [(.bin .imp y d)]) (.bin .imp x y) A9 (nw L (.bin .imp (.bin .imp x y) d) [(.bin .imp y d)]).length c9 w1 W G1 ⟨HG.out.cc, hG1, by omega⟩ (by omega) hS hs)
          have HP2 := Lib.hid (fun A9 c9 W hS hs => HPP.out (nw L (.bin .imp (.bin .imp x y) d) [d]) c A9 (nw L (.bin .imp (.bin .imp x y) d) [d]).length c9 w1 W G1 ⟨HG.out.cc, hG2, by omega⟩ (by omega) hS hs)
          have HV : Hid (chB L c (.bin .imp (.bin .imp x y) d) = (vlB (nw L (.bin .imp (.bin .imp x y) d) [.bin .imp y d]) (.bin .imp x y) && vlB (nw L (.bin .imp (.bin .imp x y) d) [d]) c)) := Lib.hid rfl
          generalize vlB (nw L (.bin .imp (.bin .imp x y) d) [(.bin .imp y d)]) (.bin .imp x y) = x1 at *
          generalize vlB (nw L (.bin .imp (.bin .imp x y) d) [d]) c = x2 at *
          clear hG1 hG2 hm1 hm2 hsm hlen HPP
          go_wp2_with fail
          refine (fstF .imp (.bin .imp x y) d _ _ HA.out (by omega)).mono ?_
          rintro e w2 ⟨Aa, ca, rfl, hx, rfl⟩
          have HX := Lib.hid hx
          clear hx
          go_wp2_with fail
          refine (sndF .imp (.bin .imp x y) d _ _ HA.out (by omega)).mono ?_
          rintro e w2 ⟨Ad, cd, rfl, hx, rfl⟩
          have HD := Lib.hid hx
          clear hx
          go_upto_region 5 with fail
          have hcd := HCD.out
          have hc0 := HC0.out
          have hc1 := HC1.out
          have hnd : ¬ gd = M := fun e => by rw [e, HN.out] at hcd; cases hcd
          have hng : ¬ gg = M := fun e => by rw [e, HN.out] at hc0; cases hc0
          refine wp_region_sched (fun X => KpS (fun k => k = M) w1 X) 25 [0, 1, 2, 3, 5, 11, 15, 16, 17, 18, 19, 24] [0, 1, 2, 3, 5, 11, 4, 6, 7, 8, 9, 10, 12, 13, 14, 15, 16, 17, 18, 19, 20, 21, 22, 23, 24] (by kernel_rfl) (by kernel_rfl) (KpS.of (Below.refl _ _).drew) ?_
          repeat
            apply wpSched_q rfl rfl
            case h =>
              intro w' hI K hK
              have hcd' := (hI.cell (p := ⟨gd, 0, none⟩) hgd hnd).trans hcd
              have hc0' := (hI.cell (p := ⟨gg, 0, none⟩) hgg hng).trans hc0
              have hc1' := (hI.cell (p := ⟨gg, 1, none⟩) hgg hng).trans hc1
              simp only [quietV, stillV]
              go_simp
              exact hK
            go_simp
          have hI0 : KpS (fun k => k = M) w1 w1.drew := KpS.of (Below.refl _ _).drew
          have hst := HST.out.below (Below.refl w1.heap.size w1).drew
          have hhx := HX.out.below (Below.refl w1.heap.size w1).drew
          have hhd := HD.out.below (Below.refl w1.heap.size w1).drew
          have hhl := HL.out.below (Below.refl w1.heap.size w1).drew
          generalize World.drew w1 = wa at *
          refine wpSched_r rfl rfl ?_ hI0
          intro K hK hI
          go_simp
          refine (sndF .imp x y _ _ hhx (by omega)).mono ?_
          rintro e wz ⟨Ay, cy, rfl, hy, rfl⟩
          refine hK _ _ hI ?_
          clear hK K hI
          refine wpSched_r rfl rfl ?_ hI0
          intro K hK hI
          go_simp
          have hb := (Below.refl wa.heap.size wa).alloc (Nat.le_refl _) (.cells #[.slice Ay (enc y).length cy, .slice Ad (enc d).length cd] 37)
          have hIa := hI.below hb
          refine hK _ _ hIa ?_
          clear hK K hI hb
          refine wpSched_r rfl rfl ?_ hIa
          intro K hK hI
          go_simp
          refine (arr2F y d wa hy hhd (by omega) (by omega) _ rfl).mono ?_
          rintro e wb ⟨Az, cz, rfl, hzs, hb⟩
          have hIb := hI0.below hb
          replace hst := hst.below hb
          replace hhx := hhx.below hb
          replace hhd := hhd.below hb
          replace hhl := hhl.below hb
          refine hK _ _ hIb ?_
          clear hK K hI hb hIa hI0 hy
          refine wpSched_r rfl rfl ?_ hIb
          intro K hK hI
          go_simp
          refine (txtF (.bin .imp y d) hzs (Below.refl _ _) (by omega) hzok).mono ?_
          rintro e wc ⟨rfl, hb⟩
          have hIc := hI.below hb
          replace hst := hst.below hb
          replace hhx := hhx.below hb
          replace hhd := hhd.below hb
          replace hhl := hhl.below hb
          refine hK _ _ hIc ?_
          clear hK K hI hb
          refine wpSched_r rfl rfl ?_ hIc
          intro K hK hI
          go_simp
          have hM := Sl.txt1 wc (.bin .imp y d) 9 _ rfl
          have hb := (Below.refl wc.heap.size wc).alloc (Nat.le_refl _) (.cells #[.string (txt (.bin .imp y d))] 9)
          have hId := hI.below hb
          replace hst := hst.below hb
          replace hhx := hhx.below hb
          replace hhd := hhd.below hb
          replace hhl := hhl.below hb
          refine hK _ _ hId ?_
          clear hK K hI hb
          generalize World.alloc wc _ = wd at *
          refine wpSched_r rfl rfl ?_ hId
          intro K hK hI
          go_simp
          refine (HI.out wd [(.bin .imp y d)] _ _ _ (by simp) hhl hM).mono ?_
          rintro e we ⟨A9, c9, rfl, hs9, hb⟩
          have hIe := hI.below hb
          replace hst := hst.below hb
          replace hhx := hhx.below hb
          replace hhd := hhd.below hb
          replace hhl := hhl.below hb
          refine hK _ _ hIe ?_
          clear hK K hI hb
          refine wpSched_r rfl rfl ?_ hIe
          intro K hK hI
          go_simp
          refine (txtF (.bin .imp x y) hhx (Below.refl _ _) (by omega) haok).mono ?_
          rintro e wf ⟨rfl, hb⟩
          have hIf := hI.below hb
          replace hst := hst.below hb
          replace hhd := hhd.below hb
          replace hhl := hhl.below hb
          replace hs9 := hs9.below hb
          refine hK _ _ hIf ?_
          clear hK K hI hb
          refine wpSched_r rfl rfl ?_ hIf
          intro K hK hI
          go_simp
          refine (impl_proving A9 _ c9 (txt c) (txt (.bin .imp x y)) _).mono ?_
          rintro e wg ⟨rfl, hb⟩
          have hIg := hI.below hb
          replace hst := hst.below hb
          replace hhd := hhd.below hb
          replace hhl := hhl.below hb
          replace hs9 := hs9.below hb
          refine hK _ _ hIg ?_
          clear hK K hI hb
          clear hhx hhd hhl hM hzs hIf hIe hId hIc hIb
          refine wpSched_r rfl rfl ?_ hIg
          intro K hK hI
          go_simp
          refine (HP1.out A9 c9 _ hst hs9).mono ?_
          rintro e wh ⟨rfl, hst2⟩
          refine hK _ _ hst2.km ?_
          clear hK K hI hst hs9 hIg
          have HS2 := Lib.hid hst2
          cases x1
          · skip
            repeat
              apply wpSched_q rfl rfl
              case h =>
                intro w' hI K hK
                have hcd' := (hI.cell (p := ⟨gd, 0, none⟩) hgd hnd).trans hcd
                have hc0' := (hI.cell (p := ⟨gg, 0, none⟩) hgg hng).trans hc0
                have hc1' := (hI.cell (p := ⟨gg, 1, none⟩) hgg hng).trans hc1
                simp only [quietV, stillV]
                go_simp
                exact hK
              go_simp
            repeat
              refine wpSched_r rfl rfl ?_ hst2.km
              intro K hK hI
              go_simp
              refine hK _ _ hst2.km ?_
              clear hK K hI
            repeat
              apply wpSched_q rfl rfl
              case h =>
                intro w' hI K hK
                simp only [quietV, stillV]
                go_simp
                exact hK
              go_simp
            refine wpSched_nil ?_
            try simp only [List.drop_succ_cons, List.drop_zero, List.drop_nil]
            clear hst2 hcd hc0 hc1
            go_wp2
            go_ret
            exact ⟨by rw [HV.out]; rfl, HRE.out _ HS2.out⟩
          · skip
            repeat
              apply wpSched_q rfl rfl
              case h =>
                intro w' hI K hK
                have hcd' := (hI.cell (p := ⟨gd, 0, none⟩) hgd hnd).trans hcd
                have hc0' := (hI.cell (p := ⟨gg, 0, none⟩) hgg hng).trans hc0
                have hc1' := (hI.cell (p := ⟨gg, 1, none⟩) hgg hng).trans hc1
                simp only [quietV, stillV]
                go_simp
                exact hK
              go_simp
            have hhd := HD.out.km HN.out hst2.km
            have hhl := HL.out.km HN.out hst2.km
            have hst := hst2
            have hIh := hst2.km
            clear hst2
            refine wpSched_r rfl rfl ?_ hIh
            intro K hK hI
            go_simp
            refine (txtF d hhd (Below.refl _ _) (by omega) hdok).mono ?_
            rintro e wi ⟨rfl, hb⟩
            have hIi := hI.below hb
            replace hst := hst.below hb
            replace hhl := hhl.below hb
            refine hK _ _ hIi ?_
            clear hK K hI hb
            refine wpSched_r rfl rfl ?_ hIi
            intro K hK hI
            go_simp
            have hM := Sl.txt1 wi d 9 _ rfl
            have hb := (Below.refl wi.heap.size wi).alloc (Nat.le_refl _) (.cells #[.string (txt d)] 9)
            have hIj := hI.below hb
            replace hst := hst.below hb
            replace hhl := hhl.below hb
            refine hK _ _ hIj ?_
            clear hK K hI hb
            generalize World.alloc wi _ = wj at *
            refine wpSched_r rfl rfl ?_ hIj
            intro K hK hI
            go_simp
            refine (HI.out wj [d] _ _ _ (by simp) hhl hM).mono ?_
            rintro e wk ⟨A8, c8, rfl, hs8, hb⟩
            have hIk := hI.below hb
            replace hst := hst.below hb
            refine hK _ _ hIk ?_
            clear hK K hI hb
            refine wpSched_r rfl rfl ?_ hIk
            intro K hK hI
            go_simp
            refine (HP2.out A8 c8 _ hst hs8).mono ?_
            rintro e wl ⟨rfl, hst3⟩
            refine hK _ _ hst3.km ?_
            clear hK K hI hst hs8 hIk hIj hIi hIh hhd hhl hM
            have HS3 := Lib.hid hst3
            repeat
              apply wpSched_q rfl rfl
              case h =>
                intro w' hI K hK
                simp only [quietV, stillV]
                go_simp
                exact hK
              go_simp
            refine wpSched_nil ?_
            try simp only [List.drop_succ_cons, List.drop_zero, List.drop_nil]
            clear hst3 hcd hc0 hc1
            go_wp2
            go_ret
            exact ⟨by rw [HV.out]; rfl, HRE.out _ HS3.out⟩
end Go.Proofs.YtaigiopoogbbbaaGreat

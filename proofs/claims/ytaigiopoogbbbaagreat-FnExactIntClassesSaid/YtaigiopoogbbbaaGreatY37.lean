/- Contracts of the program: the decision of a sequent, from that of smaller ones. -/
import Derived.Test.YtaigiopoogbbbaaGreatY36
namespace Go.Proofs.YtaigiopoogbbbaaGreat
open Go.RowKit Go.Maps
set_option linter.unusedVariables false
set_option linter.unusedSimpArgs false
theorem Prm.gc {C L : List Fm} {c : Fm} {ps : List (List Fm × Fm)} (hp : Prm C L c ps) (hg : GC C L c) : ∀ p ∈ ps, GC C p.1 p.2 ∧ gsw p < gsw (L, c) := fun p hm => by
  have h1 := hp.sm p hm
  have h2 := hg.sm
  exact ⟨⟨hg.cc, hp.gd p hm, Nat.le_trans (Nat.le_of_lt h1) h2⟩, h1⟩
theorem txt_memI {L : List Fm} {f : Fm} (hL : ∀ g ∈ L, g.ok = true) (hf : f.ok = true) : txt f ∈ L.map txt ↔ f ∈ L := by
  rw [List.mem_map]
  exact ⟨fun ⟨g, h2, h3⟩ => txt_injI (hL g h2) hf h3 ▸ h2, fun h => ⟨_, h, rfl⟩⟩
set_option maxRecDepth 100000 in
set_option maxHeartbeats 1000000 in
theorem impl_decide (C : List Fm) (D M m : Nat) (HP : PrL C D M m) (L : List Fm) (c : Fm) (A : Option Addr) (n k : Nat) (w0 w : World) (G0 : List (List Fm × Fm)) (hg : GC C L c) (hm : gsw (L, c) = m) (hS : StM C D M m G0 w0 w) (hs : Sl cS w (.slice A n k) (L.map txt)) :
    Calls Tryz.prog 72 #[.pointer (some ⟨D, 0, none⟩), .agg #[.slice A n k, .string (txt c)]] w fun e w' => e = .returned (.bool (vlB L c)) ∧ StM C D M m G0 w0 w' := by
  obtain ⟨A', k', e⟩ := hs.opn
  injection e with e1 e2 e3
  subst e1 e2 e3
  rw [List.length_map] at hs ⊢
  have hlen := hg.len
  have hLok : ∀ g ∈ L, g.ok = true := fun g h => (hg.gd.2.1 g h).1
  have hok : c.ok = true := hg.cc.ok _ hg.gd.2.2
  have hpl : c.plain = true := hg.cc.pl _ hg.gd.2.2
  have hsh : (enc c).length ≤ 20 := hg.cc.sh _ hg.gd.2.2
  have htx : (txt c).size ≤ 1000 := by have := txt_120 c; omega
  have hb0 := below_alloc' w (.cells #[.slice A L.length k, .string (txt c)] 80)
  have HK0 := Lib.hid (Blk.new w 80 #[.slice A L.length k, .string (txt c)])
  have HS0 := Lib.hid (hS.below hb0)
  have HL0 := Lib.hid (hs.below hb0)
  have HG := Lib.hid hg
  have HPP := Lib.hid HP
  have HCt := Lib.hid (fun f b (hb : b = true ↔ f ∈ L) (hf : f.ok = true) W (hW : Sl cS W (.slice A L.length k) (L.map txt)) => slices_ContainsS (.slice A L.length k) (L.map txt) (txt f) b (hb.trans (txt_memI hLok hf).symm) W hW (by rw [List.length_map]; omega))
  clear hb0 hS hs hg HP
  by_cases hcL : c ∈ L
  · have HV : Hid (vlB L c = true) := Lib.hid (vlB_true (Val.ax hcL))
    have HC := Lib.hid (HCt.out c true ⟨fun _ => hcL, fun _ => rfl⟩ hok _ HL0.out)
    clear HCt hcL
    go_enter Tryz.func72, Tryz.ntmps72
    go_upto_region 1 with fail
    generalize World.alloc w _ = w1 at *
    have k0 := HK0.out.cell 0
    have k1 := HK0.out.cell 1
    have l1 := HK0.out.lt
    go_wp2_with fail
    refine HC.out.mono ?_
    rintro e w2 ⟨rfl, rfl⟩
    go_wp2
    go_ret
    exact ⟨by rw [HV.out]; rfl, HS0.out⟩
  have HC1 := Lib.hid (HCt.out c false ⟨fun e => (by cases e), fun e => absurd e hcL⟩ hok _ HL0.out)
  by_cases hFL : .fls ∈ L
  · have HV : Hid (vlB L c = true) := Lib.hid (vlB_true (Val.flsL hFL))
    have HC : Hid (Calls Tryz.prog 77 #[.slice A L.length k, .string ⟨#[70]⟩] _ _) := Lib.hid (HCt.out .fls true ⟨fun _ => hFL, fun _ => rfl⟩ rfl _ HL0.out)
    clear HCt hcL hFL
    go_enter Tryz.func72, Tryz.ntmps72
    go_upto_region 1 with fail
    generalize World.alloc w _ = w1 at *
    have k0 := HK0.out.cell 0
    have k1 := HK0.out.cell 1
    have l1 := HK0.out.lt
    go_wp2_with fail
    refine HC1.out.mono ?_
    rintro e w2 ⟨rfl, rfl⟩
    go_wp2_with fail
    refine HC.out.mono ?_
    rintro e w2 ⟨rfl, rfl⟩
    go_wp2
    go_ret
    exact ⟨by rw [HV.out]; rfl, HS0.out⟩
  have HC2 : Hid (Calls Tryz.prog 77 #[.slice A L.length k, .string ⟨#[70]⟩] _ _) := Lib.hid (HCt.out .fls false ⟨fun e => (by cases e), fun e => absurd e hFL⟩ rfl _ HL0.out)
  have HTr := Lib.hid (fun W => impl_treeOf c W hok htx)
  have HPT := Lib.hid (fun W v (hW : Sl cN W v (enc c)) => impl_partTexts c v W hW (by omega) hok)
  clear HCt
  go_enter Tryz.func72, Tryz.ntmps72
  go_upto_region 1 with fail
  generalize World.alloc w _ = w1 at *
  have k0 := HK0.out.cell 0
  have k1 := HK0.out.cell 1
  have l1 := HK0.out.lt
  go_wp2_with fail
  refine HC1.out.mono ?_
  rintro e w2 ⟨rfl, rfl⟩
  go_wp2_with fail
  refine HC2.out.mono ?_
  rintro e w2 ⟨rfl, rfl⟩
  go_wp2_with fail
  refine (HTr.out w1).mono ?_
  rintro e w2 ⟨r, rfl, ho, hb⟩
  obtain ⟨A1, c1, rfl⟩ := ho.opn
  have HK := HK0.out.below hb l1
  have HA := ho.sl
  have HS := HS0.out.below hb
  have HL := HL0.out.below hb
  clear HC1 HC2 HTr HK0 HL0 HS0 k0 k1 l1 ho hb
  have HAh := Lib.hid HA
  go_wp2_with fail
  refine (HPT.out w2 _ HA).mono ?_
  rintro e w3 ⟨r, rfl, ho, hb⟩
  obtain ⟨Ap, cp, rfl⟩ := ho.opn
  replace HK := Lib.hid (HK.below hb HK.lt)
  replace HA := Lib.hid (HA.below hb)
  replace HS := Lib.hid (HS.below hb)
  replace HL := Lib.hid (HL.below hb)
  rw [List.length_map] at ho ⊢
  have HPS := Lib.hid ho.sl
  have k0 := HK.out.cell 0
  have k1 := HK.out.cell 1
  have l1 := HK.out.lt
  have hpp := enc_pos c
  clear ho hb HPT HAh
  obtain ⟨b, o, rfl, hb, hc⟩ := HA.out.cell (k := 0) hpp
  have hcase : (∃ x y, c = .bin .and x y) ∨ (∃ x y, c = .bin .imp x y) ∨ ∃ kd : Int, w3.cell? ⟨b, o, none⟩ = some (.int .i64 kd) ∧ ¬ kd = 2 ∧ ¬ kd = 4 ∧ (∀ x y, c ≠ .bin .and x y) ∧ ∀ x y, c ≠ .bin .imp x y := by
    cases c with
    | var s => exact .inr (.inr ⟨0, hc 0 _ rfl, by decide, by decide, fun x y e => (by cases e), fun x y e => (by cases e)⟩)
    | fls => exact .inr (.inr ⟨1, hc 0 _ rfl, by decide, by decide, fun x y e => (by cases e), fun x y e => (by cases e)⟩)
    | un kk x => simp [Fm.plain] at hpl
    | bin kk x y =>
      cases kk with
      | and => exact .inl ⟨x, y, rfl⟩
      | imp => exact .inr (.inl ⟨x, y, rfl⟩)
      | or => exact .inr (.inr ⟨3, hc 0 _ rfl, by decide, by decide, fun x y e => (by injection e with e0; cases e0), fun x y e => (by injection e with e0; cases e0)⟩)
  rcases hcase with ⟨x, y, rfl⟩ | ⟨x, y, rfl⟩ | ⟨kd, hkc, hk2, hk4, hand, himp⟩
  · have hcc : w3.cell? ⟨b, o, none⟩ = some (.int .i64 2) := hc 0 _ rfl
    have PS : Hid (Sl cS w3 (.slice Ap 2 cp) ([x, y].map txt)) := Lib.hid HPS.out
    have hpr := prm_andR HG.out.cc.ok HG.out.cc.cl HG.out.gd rfl
    have hgc := hpr.gc HG.out
    have hval := hpr.val
    simp only [List.all_cons, List.all_nil, Bool.and_true] at hval
    have HVA := Lib.hid hval
    have HALL := Lib.hid (fun W A1 k1 (hW : StM C D M m G0 w0 W) h1 => impl_all C D M m HPP.out [(⟨A, L.length, k⟩, L, x), (⟨A, L.length, k⟩, L, y)] A1 2 k1 w0 W G0 hW h1 (by simp) (fun g hg => by
      have := hgc g.2 (by simp only [List.mem_cons, List.not_mem_nil, or_false] at hg ⊢; rcases hg with rfl | rfl <;> simp)
      rw [hm] at this
      exact this))
    rw [show (kids (.bin .and x y)).length = 2 from rfl]
    obtain ⟨bp, op, rfl, hbp, hcp⟩ := PS.out.cell (k := 0) (by simp)
    have hp0 : w3.cell? ⟨bp, op, none⟩ = some (.string (txt x)) := hcp 0 _ rfl
    obtain ⟨bp', op', e1, hbp', hcp1⟩ := PS.out.cell (k := 1) (by simp)
    injection e1 with e1
    injection e1 with e2 e3 _
    subst e2 e3
    have hp1 : w3.cell? ⟨bp, op + 1, none⟩ = some (.string (txt y)) := hcp1 0 _ rfl
    clear hc HPS hcp hcp1 hbp' hpr hgc hval
    go_upto_region 7 with fail
    refine wp_region_sched (Below w3.heap.size w3) 12 [0, 1, 2, 3, 4, 6, 7, 8, 9] [0, 1, 2, 3, 4, 6, 7, 8, 9, 5, 10, 11] (by kernel_rfl) (by kernel_rfl) (Below.refl _ _).drew ?_
    repeat
      apply wpSched_q rfl rfl
      case h =>
        intro w' hI K hK
        have k0' := (hI.cell (p := ⟨w.heap.size, 0, none⟩) l1).trans k0
        have k1' := (hI.cell (p := ⟨w.heap.size, 1, none⟩) l1).trans k1
        have hp0' := (hI.cell (p := ⟨bp, op, none⟩) hbp).trans hp0
        have hp1' := (hI.cell (p := ⟨bp, op + 1, none⟩) hbp).trans hp1
        simp only [quietV, stillV]
        go_simp
        exact hK
      go_simp
    have hst := HS.out.below (Below.refl w3.heap.size w3).drew
    have hhl := HL.out.below (Below.refl w3.heap.size w3).drew
    have hI0 : Below w3.heap.size w3 w3.drew := (Below.refl _ _).drew
    generalize World.drew w3 = wa at *
    refine wpSched_r rfl rfl ?_ hI0
    intro K hK hI
    go_simp
    refine (impl_proving A L.length k (txt (.bin .and x y)) (txt x) _).mono ?_
    rintro e wb ⟨rfl, hb⟩
    have hIb := hI.trans (hb.mono hI.size)
    replace hst := hst.below hb
    replace hhl := hhl.below hb
    refine hK _ _ hIb ?_
    clear hK K hI hb
    refine wpSched_r rfl rfl ?_ hIb
    intro K hK hI
    go_simp
    refine (impl_proving A L.length k (txt (.bin .and x y)) (txt y) _).mono ?_
    rintro e wc ⟨rfl, hb⟩
    have hIc := hI.trans (hb.mono hI.size)
    replace hst := hst.below hb
    replace hhl := hhl.below hb
    refine hK _ _ hIc ?_
    clear hK K hI hb
    refine wpSched_r rfl rfl ?_ hIc
    intro K hK hI
    go_simp
    have hG := GlR.two (c := x) (c' := y) hhl hhl 80 _ rfl
    have hb := (Below.refl wc.heap.size wc).alloc (Nat.le_refl _) (.cells #[.slice A L.length k, .string (txt x), .slice A L.length k, .string (txt y)] 80)
    have hId := hI.trans (hb.mono hI.size)
    replace hst := hst.below hb
    refine hK _ _ hId ?_
    clear hK K hI hb
    generalize World.alloc wc _ = wd at *
    refine wpSched_nil ?_
    try simp only [List.drop_succ_cons, List.drop_zero, List.drop_nil]
    have HC := Lib.hid (HALL.out wd _ _ hst hG)
    clear hId hIc hIb hI0 hst hhl hG k0 k1 hcc hp0 hp1
    go_wp2_with fail
    refine HC.out.mono ?_
    rintro e we ⟨rfl, hst⟩
    have HS9 := Lib.hid hst
    clear hst
    go_wp2
    go_ret
    exact ⟨by rw [HVA.out]; rfl, HS9.out⟩
  · have hcc : w3.cell? ⟨b, o, none⟩ = some (.int .i64 4) := hc 0 _ rfl
    have PS : Hid (Sl cS w3 (.slice Ap 2 cp) ([x, y].map txt)) := Lib.hid HPS.out
    have hpr := prm_impR HG.out.cc.ok HG.out.cc.cl HG.out.gd rfl
    obtain ⟨hg1, hg2⟩ := hpr.gc HG.out _ (List.mem_singleton.2 rfl)
    have hval := hpr.val
    rw [List.all_cons, List.all_nil, Bool.and_true] at hval
    have HVA := Lib.hid hval
    have HPR := Lib.hid (fun W A9 c9 (hW : StM C D M m G0 w0 W) h1 => HPP.out (pu L [x]) y A9 (pu L [x]).length c9 w0 W G0 hg1 (by rw [← hm]; exact hg2) hW h1)
    have HWi := Lib.hid (fun W B m z (h1 : Sl cS W (.slice A L.length k) (L.map txt)) (h2 : Sl cS W (.slice B m z) ([x].map txt)) => impl_withF A B L.length k m z (txt (.bin .imp x y)) L [x] W h1 h2 (by simp; omega))
    rw [show (kids (.bin .imp x y)).length = 2 from rfl]
    obtain ⟨bp, op, rfl, hbp, hcp⟩ := PS.out.cell (k := 0) (by simp)
    have hp0 : w3.cell? ⟨bp, op, none⟩ = some (.string (txt x)) := hcp 0 _ rfl
    obtain ⟨bp', op', e1, hbp', hcp1⟩ := PS.out.cell (k := 1) (by simp)
    injection e1 with e1
    injection e1 with e2 e3 _
    subst e2 e3
    have hp1 : w3.cell? ⟨bp, op + 1, none⟩ = some (.string (txt y)) := hcp1 0 _ rfl
    clear hc HPS hcp hcp1 hbp' hpr hval hg1 hg2
    generalize vlB (pu L [x]) y = bv at *
    go_upto_region 9 with fail
    refine wp_region_sched (Below w3.heap.size w3) 11 [0, 1, 2, 3, 4, 7, 8, 9] [0, 1, 2, 3, 4, 7, 8, 9, 5, 6, 10] (by kernel_rfl) (by kernel_rfl) (Below.refl _ _).drew ?_
    repeat
      apply wpSched_q rfl rfl
      case h =>
        intro w' hI K hK
        have k0' := (hI.cell (p := ⟨w.heap.size, 0, none⟩) l1).trans k0
        have k1' := (hI.cell (p := ⟨w.heap.size, 1, none⟩) l1).trans k1
        have hp0' := (hI.cell (p := ⟨bp, op, none⟩) hbp).trans hp0
        have hp1' := (hI.cell (p := ⟨bp, op + 1, none⟩) hbp).trans hp1
        simp only [quietV, stillV]
        go_simp
        exact hK
      go_simp
    have hst := HS.out.below (Below.refl w3.heap.size w3).drew
    have hhl := HL.out.below (Below.refl w3.heap.size w3).drew
    have hI0 : Below w3.heap.size w3 w3.drew := (Below.refl _ _).drew
    generalize World.drew w3 = wa at *
    refine wpSched_r rfl rfl ?_ hI0
    intro K hK hI
    go_simp
    have hM := Sl.txt1 wa x 9 _ rfl
    have hb := (Below.refl wa.heap.size wa).alloc (Nat.le_refl _) (.cells #[.string (txt x)] 9)
    have hIb := hI.trans (hb.mono hI.size)
    replace hst := hst.below hb
    replace hhl := hhl.below hb
    refine hK _ _ hIb ?_
    clear hK K hI hb
    generalize World.alloc wa _ = wb at *
    refine wpSched_r rfl rfl ?_ hIb
    intro K hK hI
    go_simp
    refine (HWi.out wb _ _ _ hhl hM).mono ?_
    rintro e wc ⟨A9, c9, rfl, hs9, hb⟩
    have hIc := hI.trans (hb.mono hI.size)
    replace hst := hst.below hb
    refine hK _ _ hIc ?_
    clear hK K hI hb
    refine wpSched_r rfl rfl ?_ hIc
    intro K hK hI
    go_simp
    refine (impl_proving A9 _ c9 (txt (.bin .imp x y)) (txt y) _).mono ?_
    rintro e wd ⟨rfl, hb⟩
    have hId := hI.trans (hb.mono hI.size)
    replace hst := hst.below hb
    replace hs9 := hs9.below hb
    refine hK _ _ hId ?_
    clear hK K hI hb
    refine wpSched_nil ?_
    try simp only [List.drop_succ_cons, List.drop_zero, List.drop_nil]
    have HC := Lib.hid (HPR.out wd _ _ hst hs9)
    clear hId hIc hIb hI0 hst hhl hM hs9 k0 k1 hcc hp0 hp1
    go_wp2_with fail
    refine HC.out.mono ?_
    rintro e we ⟨rfl, hst⟩
    have HS9 := Lib.hid hst
    clear hst
    go_wp2
    go_ret
    exact ⟨by rw [HVA.out]; rfl, HS9.out⟩
  · have HTri := Lib.hid (fun (hirr : Irr L) W va (hW : StM C D M m G0 w0 W) (hl : Sl cS W (.slice A L.length k) (L.map txt)) (hv : Sl cN W va (enc c)) => impl_tries C D M m HPP.out L c A L.length k va w0 W G0 HG.out hm hcL hand himp hirr hW hl hv)
    have HTk := Lib.hid (fun i (hi : i < L.length) W va (hl : Sl cS W (.slice A L.length k) (L.map txt)) (hv : Sl cN W va (enc (L[i]'hi))) => impl_taken C L c (L[i]'hi) A L.length k va W HG.out (List.getElem_mem hi) hFL hl hv)
    have HTr := Lib.hid (fun i (hi : i < L.length) W => by
      have h1 := HG.out.gd.2.1 _ (List.getElem_mem hi)
      have h2 := HG.out.cc.sh _ h1.2
      exact impl_treeOf (L[i]'hi) W h1.1 (by have := txt_120 (L[i]'hi); omega))
    have hk2' : (kd == 2) = false := by simp [hk2]
    have hk4' : (kd == 4) = false := by simp [hk4]
    clear hc hk2 hk4
    go_wp2
    go_loopw [62] (fun i wr => ∃ j : Nat, j ≤ L.length ∧ i = .int .i64 j ∧ Below w3.heap.size w3 wr ∧ ∀ i (hi : i < L.length), i < j → irr1 L (L[i]'hi)) (fun i _ => L.length - (intOf i).toNat)
    case atStart => exact ⟨0, Nat.zero_le _, rfl, Below.refl _ _, fun i hi h => absurd h (Nat.not_lt_zero _)⟩
    case round =>
      obtain ⟨j, hj, rfl, hbr, hirr⟩ := hrel
      have HIR := Lib.hid hirr
      have HBR := Lib.hid hbr
      have k0' := (hbr.cell (p := ⟨w.heap.size, 0, none⟩) l1).trans k0
      have k1' := (hbr.cell (p := ⟨w.heap.size, 1, none⟩) l1).trans k1
      have l1' := Nat.lt_of_lt_of_le l1 hbr.size
      clear hirr k0 k1 hkc
      by_cases hlt : j < L.length
      · obtain ⟨bl, ol, e1, hbl, hcl⟩ := (HL.out.below hbr).cell (k := j) (by rw [List.length_map]; exact hlt)
        have hlc : wr.cell? ⟨bl, ol + j, none⟩ = some (.string (txt (L[j]'hlt))) := by
          have h1 := hcl 0 (.string (txt (L[j]'hlt))) (by simp [cS])
          simpa [cS] using h1
        have HTr1 := Lib.hid (fun W => HTr.out j hlt W)
        have HTk1 := Lib.hid (fun W va h1 h2 => HTk.out j hlt W va h1 h2)
        have HNx : Hid (irr1 L (L[j]'hlt) → ∀ i (hi : i < L.length), i < j + 1 → irr1 L (L[i]'hi)) := Lib.hid (fun h i hi hij => by
          by_cases e : i = j
          · subst e; exact h
          · exact HIR.out i hi (by omega))
        have HGS := Lib.hid (fun (gs : List (Hd × List Fm × Fm)) (hpr : Prm C L c (gs.map (·.2))) => fun g (hgm : g ∈ gs) => by
          have := hpr.gc HG.out g.2 (List.mem_map.2 ⟨g, hgm, rfl⟩)
          rw [hm] at this
          exact this)
        subst e1
        generalize L[j]'hlt = f at *
        clear hcl HTr HTk HTri
        go_upto_region 13 with fail
        refine wp_region_sched (Below wr.heap.size wr) 10 [0, 1, 2, 5, 6, 7, 8, 9] [0, 1, 2, 3, 4, 5, 6, 7, 8, 9] (by kernel_rfl) (by kernel_rfl) (Below.refl _ _).drew ?_
        repeat
          apply wpSched_q rfl rfl
          case h =>
            intro w' hI K hK
            have k0'' := (hI.cell (p := ⟨w.heap.size, 0, none⟩) l1').trans k0'
            have k1'' := (hI.cell (p := ⟨w.heap.size, 1, none⟩) l1').trans k1'
            simp only [quietV, stillV]
            go_simp
            exact hK
          go_simp
        have hI0 : Below wr.heap.size wr wr.drew := (Below.refl _ _).drew
        refine wpSched_r rfl rfl ?_ hI0
        intro K hK hI
        go_simp
        refine (HTr1.out _).mono ?_
        rintro e wa ⟨r, rfl, ho, hb⟩
        obtain ⟨At, ct, rfl⟩ := ho.opn
        have hIa := hI.trans (hb.mono hI.size)
        refine hK _ _ hIa ?_
        clear hK K hI hb
        refine wpSched_r rfl rfl ?_ hIa
        intro K hK hI
        go_simp
        refine (HTk1.out wa _ (HL.out.below (bthen hbr hIa)) ho.sl).mono ?_
        rintro e wb ⟨hb, hT⟩
        have hIb := hI.trans (hb.mono hI.size)
        rcases hT with ⟨A', n', k', rfl, hi⟩ | ⟨A', n', k', gs, rfl, hgl, hl2, hpr⟩
        · refine hK _ _ hIb ?_
          clear hK K hI hb
          repeat
            apply wpSched_q rfl rfl
            case h =>
              intro w' hI K hK
              simp only [quietV, stillV]
              go_simp
              exact hK
            go_simp
          refine wpSched_nil ?_
          try simp only [List.drop_succ_cons, List.drop_zero, List.drop_nil]
          have HN := Lib.hid (HNx.out hi)
          have HB2 := Lib.hid (bthen hbr hIb)
          clear hIa hIb hI0 ho hi hlc k0' k1' hbl hbr
          go_wp2
          go_roundw
          case rel => exact ⟨j + 1, by omega, by go_num, HB2.out, HN.out⟩
          case measure => simp [intOf]; omega
        · refine hK _ _ hIb ?_
          clear hK K hI hb
          repeat
            apply wpSched_q rfl rfl
            case h =>
              intro w' hI K hK
              simp only [quietV, stillV]
              go_simp
              exact hK
            go_simp
          refine wpSched_nil ?_
          try simp only [List.drop_succ_cons, List.drop_zero, List.drop_nil]
          have HALL := Lib.hid (impl_all C D M m HPP.out gs A' n' k' w0 wb G0 (HS.out.below (bthen hbr hIb)) hgl hl2 (HGS.out gs hpr))
          have HVA := Lib.hid hpr.val
          clear hIa hIb hI0 ho hlc k0' k1' hbl hbr hgl hpr
          generalize ((gs.map (·.2)).all fun p => vlB p.1 p.2) = bv at *
          go_wp2_with fail
          refine HALL.out.mono ?_
          rintro e we ⟨rfl, hst⟩
          have HS9 := Lib.hid hst
          clear hst
          go_wp2
          go_ret
          exact ⟨by rw [HVA.out]; rfl, HS9.out⟩
      · obtain rfl : j = L.length := by omega
        have hirr : Irr L := fun f hf => by
          obtain ⟨i, hi, rfl⟩ := List.mem_iff_getElem.1 hf
          exact HIR.out i hi hi
        have HC := Lib.hid (HTri.out hirr wr _ (HS.out.below hbr) (HL.out.below hbr) (HA.out.below hbr))
        clear hirr hbr
        go_wp2_with fail
        refine HC.out.mono ?_
        rintro e we ⟨rfl, hst⟩
        have HS9 := Lib.hid hst
        clear hst
        go_wp2
        go_ret
        exact ⟨rfl, HS9.out⟩
end Go.Proofs.YtaigiopoogbbbaaGreat

/- Contracts of the program: the tries of a sequent. -/
import Derived.Test.YtaigiopoogbbbaaGreatY35
namespace Go.Proofs.YtaigiopoogbbbaaGreat
open Go.RowKit Go.Maps
set_option linter.unusedVariables false
set_option linter.unusedSimpArgs false
/-- what the tries come to -/
theorem tries_no {C L : List Fm} {c : Fm} (hg : GC C L c) (hcL : c ∉ L) (hand : ∀ a b, c ≠ .bin .and a b) (himp : ∀ a b, c ≠ .bin .imp a b) (hirr : Irr L) (hor : ∀ a b, c = .bin .or a b → (vlB L a || vlB L b) = false) : vlB L c = (List.range L.length).any fun i => chB L c (L.getD i .fls) := by
  cases hx : (List.range L.length).any fun i => chB L c (L.getD i .fls) with
  | true =>
    obtain ⟨i, hi, h1⟩ := List.any_eq_true.1 hx
    have hi' := List.mem_range.1 hi
    rw [List.getD_eq_getElem?_getD, List.getElem?_eq_getElem hi', Option.getD_some] at h1
    exact vlB_true (chB_val hg.cc.ok hg.cc.cl hg.gd (List.getElem_mem hi') h1)
  | false =>
    rw [List.any_eq_false] at hx
    refine chB_irr hg.cc.ok hg.cc.cl hg.gd hirr ?_ (fun f hf => ?_) (fun a b e => ?_)
    · cases c with
      | var s => exact .inl ⟨s, rfl, hcL⟩
      | fls => exact .inr (.inl rfl)
      | un k x => have := hg.cc.pl _ hg.gd.2.2; simp [Fm.plain] at this
      | bin k a b =>
        cases k with
        | and => exact absurd rfl (hand a b)
        | imp => exact absurd rfl (himp a b)
        | or => exact .inr (.inr ⟨a, b, rfl⟩)
    · obtain ⟨i, hi, e⟩ := List.mem_iff_getElem.1 hf
      have h1 := hx i (List.mem_range.2 hi)
      rw [List.getD_eq_getElem?_getD, List.getElem?_eq_getElem hi, Option.getD_some, e] at h1
      simpa using h1
    · have := hor a b e
      rw [Bool.or_eq_false_iff] at this
      exact this
set_option maxRecDepth 100000 in
set_option maxHeartbeats 1000000 in
theorem impl_tries (C : List Fm) (D M m : Nat) (HP : PrL C D M m) (L : List Fm) (c : Fm) (A : Option Addr) (n k : Nat) (va : Value) (w0 w : World) (G0 : List (List Fm × Fm)) (hg : GC C L c) (hm : gsw (L, c) = m) (hcL : c ∉ L) (hand : ∀ a b, c ≠ .bin .and a b) (himp : ∀ a b, c ≠ .bin .imp a b) (hirr : Irr L)
    (hS : StM C D M m G0 w0 w) (hs : Sl cS w (.slice A n k) (L.map txt)) (hv : Sl cN w va (enc c)) :
    Calls Tryz.prog 84 #[.pointer (some ⟨D, 0, none⟩), .agg #[.slice A n k, .string (txt c)], va] w fun e w' => e = .returned (.bool (vlB L c)) ∧ StM C D M m G0 w0 w' := by
  have hlen := hg.len
  have hok : c.ok = true := hg.cc.ok _ hg.gd.2.2
  have hpl : c.plain = true := hg.cc.pl _ hg.gd.2.2
  have hsh : (enc c).length ≤ 20 := hg.cc.sh _ hg.gd.2.2
  obtain ⟨A1, c1, rfl⟩ := hv.opn
  have hb1 := below_alloc' w (.cells #[.pointer (some ⟨D, 0, none⟩)] 69)
  have hb2 := below_alloc' (w.alloc (.cells #[.pointer (some ⟨D, 0, none⟩)] 69)) (.cells #[.slice A n k, .string (txt c)] 80)
  have hk1 := (Blk.new w 69 #[.pointer (some ⟨D, 0, none⟩)]).below hb2 (Blk.new w 69 #[.pointer (some ⟨D, 0, none⟩)]).lt
  have hk2 := Blk.new' (w.alloc (.cells #[.pointer (some ⟨D, 0, none⟩)] 69)) 80 #[.slice A n k, .string (txt c)] (g := w.heap.size + 1) (by simp)
  have hS1 := (hS.below hb1).below hb2
  have hs1 := (hs.below hb1).below hb2
  have hv1 := (hv.below hb1).below hb2
  have hno := hS1.no
  obtain ⟨G1, hS2, hre⟩ := hS1.re
  have HRE := Lib.hid hre
  have HS2 := Lib.hid hS2
  have HV := Lib.hid hv1
  have HNO := Lib.hid hno
  -- the second search
  have HC2 := Lib.hid (fun W (hW : StM C D M m G1 _ W) => slices_ContainsFunc_strs (.slice A n k) (L.map txt) 97 #[.pointer (some ⟨w.heap.size, 0, none⟩), .pointer (some ⟨w.heap.size + 1, 0, none⟩)] (fun i => chB L c (L.getD i .fls)) (StM C D M m G1 _) W (by rw [List.length_map]; omega) hW (fun _ _ => rfl)
    (fun W hW => hs1.km hno hW.km) (fun W i hi hW => by
      have hi' : i < L.length := by rw [List.length_map] at hi; exact hi
      rw [List.getElem_map, List.getD_eq_getElem?_getD, List.getElem?_eq_getElem hi', Option.getD_some]
      exact impl_tries_2 C D M m HP L c _ A n k w.heap.size (w.heap.size + 1) _ W G1 hg hm (List.getElem_mem hi') hW (hs1.km hno hW.km) (Nat.lt_of_lt_of_le hk1.lt hW.km.size) (hW.km.cell hno hk1.lt (hk1.cell 0)) (Nat.lt_of_lt_of_le hk2.lt hW.km.size) (hW.km.cell hno hk2.lt (hk2.cell 0)) (hW.km.cell hno hk2.lt (hk2.cell 1))))
  -- the first
  have HC1 := Lib.hid (fun a b (e : c = .bin .or a b) W v (hW : StM C D M m G1 _ W) (hsv : Sl cS W v ([a, b].map txt)) => by
    obtain ⟨haC, hbC⟩ := hg.cc.cl.bin _ _ _ (e ▸ hg.gd.2.2)
    have e1 := sw_or1 a b
    have e2 := sw_or2 a b
    rw [← e] at e1 e2
    have hno2 := hW.no
    obtain ⟨G2, hW2, hre2⟩ := hW.re
    exact (slices_ContainsFunc_strs v ([a, b].map txt) 96 #[.pointer (some ⟨w.heap.size, 0, none⟩), .pointer (some ⟨w.heap.size + 1, 0, none⟩)] (fun i => vlB L ([a, b].getD i .fls)) (StM C D M m G2 W) W (by simp) hW2 (fun _ _ => rfl)
      (fun W' hW' => hsv.km hno2 hW'.km) (fun W' i hi hW' => by
        have hi' : i < [a, b].length := by rw [List.length_map] at hi; exact hi
        have hkm : Km M _ W' := hW.km.trans hW'.km
        have hmem : [a, b][i]'hi' = a ∨ [a, b][i]'hi' = b := by
          have h0 : i = 0 ∨ i = 1 := by simp at hi'; omega
          rcases h0 with rfl | rfl
          · exact .inl rfl
          · exact .inr rfl
        have hgp : Gd C (L, [a, b][i]'hi') ∧ gsw (L, [a, b][i]'hi') < m := by
          have h3 : gsw (L, c) = swL L + sw c := rfl
          rcases hmem with h | h
          · rw [h]; exact ⟨⟨hg.gd.1, hg.gd.2.1, haC⟩, by simp only [gsw]; omega⟩
          · rw [h]; exact ⟨⟨hg.gd.1, hg.gd.2.1, hbC⟩, by simp only [gsw]; omega⟩
        rw [List.getElem_map, List.getD_eq_getElem?_getD, List.getElem?_eq_getElem hi', Option.getD_some]
        exact impl_tries_1 C D M m HP L c _ A n k w.heap.size (w.heap.size + 1) _ W' G2 ⟨hg.cc, hgp.1, by have := hg.sm; omega⟩ hgp.2 hW' (hs1.km hno hkm) (Nat.lt_of_lt_of_le hk1.lt hkm.size) (Km.cell hkm hno hk1.lt (hk1.cell 0)) (Nat.lt_of_lt_of_le hk2.lt hkm.size) (Km.cell hkm hno hk2.lt (hk2.cell 0)) (Km.cell hkm hno hk2.lt (hk2.cell 1)))).mono fun e w' h => And.intro h.1 (hre2 w' h.2))
  have HNC := Lib.hid (fun (hor : ∀ a b, c = .bin .or a b → (vlB L a || vlB L b) = false) => tries_no hg hcL hand himp hirr hor)
  have HPC := Lib.hid (fun W (hW : Sl cN W (.slice A1 (enc c).length c1) (enc c)) => impl_partTexts c _ W hW (by omega) hok)
  have HK1 := Lib.hid hk1
  have HK2 := Lib.hid hk2
  have hpp := enc_pos c
  clear hk1 hk2 hb1 hb2 hS hs hv hS1 hs1 hv1 hno hS2 hre HP hirr hg
  rw [List.length_map] at HC2
  generalize ((List.range L.length).any fun i => chB L c (L.getD i .fls)) = b2 at *
  go_enter Tryz.func84, Tryz.ntmps84
  go_upto_region 1 with fail
  generalize World.alloc (World.alloc w _) _ = w1 at *
  obtain ⟨b, o, rfl, hb, hc⟩ := HV.out.cell (k := 0) hpp
  have k0 := HK2.out.cell 0
  have l2 := HK2.out.lt
  cases c with
  | var s =>
    have hcc : w1.cell? ⟨b, o, none⟩ = some (.int .i64 0) := hc 0 _ rfl
    have HN := Lib.hid (HNC.out fun a b e => by cases e)
    clear hc HNC
    go_wp2_with fail
    refine (HC2.out _ HS2.out).mono ?_
    rintro e w2 ⟨rfl, hst⟩
    have HS := Lib.hid (HRE.out _ hst)
    clear hst k0
    go_wp2
    go_ret
    exact ⟨by rw [HN.out]; rfl, HS.out⟩
  | fls =>
    have hcc : w1.cell? ⟨b, o, none⟩ = some (.int .i64 1) := hc 0 _ rfl
    have HN := Lib.hid (HNC.out fun a b e => by cases e)
    clear hc HNC
    go_wp2_with fail
    refine (HC2.out _ HS2.out).mono ?_
    rintro e w2 ⟨rfl, hst⟩
    have HS := Lib.hid (HRE.out _ hst)
    clear hst k0
    go_wp2
    go_ret
    exact ⟨by rw [HN.out]; rfl, HS.out⟩
  | un kk x => simp [Fm.plain] at hpl
  | bin kk x y =>
    cases kk with
    | and => exact absurd rfl (hand x y)
    | imp => exact absurd rfl (himp x y)
    | or =>
      have hcc : w1.cell? ⟨b, o, none⟩ = some (.int .i64 3) := hc 0 _ rfl
      have HN : Hid ((vlB L x || vlB L y) = false → vlB L (.bin .or x y) = b2) := Lib.hid (fun h => HNC.out fun a b e => by injection e with _ e1 e2; subst e1 e2; exact h)
      have HT : Hid ((vlB L x || vlB L y) = true → vlB L (.bin .or x y) = true) := Lib.hid (fun h => by
        rw [Bool.or_eq_true, vlB_iff, vlB_iff] at h
        exact vlB_true (Val.orR h))
      have HA : Hid (((List.range 2).any fun i => vlB L ([x, y].getD i .fls)) = (vlB L x || vlB L y)) := Lib.hid (by
        rw [show List.range 2 = [0, 1] from rfl]
        simp)
      clear hc HNC
      go_wp2_with fail
      refine (HPC.out _ HV.out).mono ?_
      rintro e wp ⟨r, rfl, hp, hbp⟩
      obtain ⟨Ap, cp, rfl⟩ := hp.opn
      rw [List.length_map] at hp ⊢
      have h3 := HC1.out x y rfl wp _ (HS2.out.below hbp) hp.sl
      rw [show ([x, y].map txt).length = 2 from rfl, HA.out] at h3
      have H3 := Lib.hid h3
      clear h3 hp hbp k0
      rw [show (kids (.bin .or x y)).length = 2 from rfl]
      cases hor : (vlB L x || vlB L y) with
      | true =>
        rw [hor] at H3 HT
        have HR := Lib.hid (HT.out rfl)
        clear HT HN hor
        go_wp2_with fail
        refine H3.out.mono ?_
        rintro e w2 ⟨rfl, hst⟩
        have HS := Lib.hid (HRE.out _ hst)
        clear hst
        go_wp2
        go_ret
        exact ⟨by rw [HR.out]; rfl, HS.out⟩
      | false =>
        rw [hor] at H3 HN
        have HR := Lib.hid (HN.out rfl)
        clear HT HN hor
        go_wp2_with fail
        refine H3.out.mono ?_
        rintro e w2 ⟨rfl, hst⟩
        have HS := Lib.hid hst
        have HNO2 := Lib.hid hst.no
        have k0 := hst.km.cell HNO.out l2 (HK2.out.cell 0)
        have l3 := Nat.lt_of_lt_of_le l2 hst.km.size
        clear hst
        go_wp2_with fail
        refine (HC2.out _ HS.out).mono ?_
        rintro e w3 ⟨rfl, hst⟩
        have HS3 := Lib.hid (HRE.out _ hst)
        clear hst k0
        go_wp2
        go_ret
        exact ⟨by rw [HR.out]; rfl, HS3.out⟩
end Go.Proofs.YtaigiopoogbbbaaGreat

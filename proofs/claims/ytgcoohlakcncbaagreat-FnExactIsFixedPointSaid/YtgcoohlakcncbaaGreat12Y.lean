/- Contracts of chapter 12, of the reference: a space of types is made. -/
import Derived.Test.YtgcoohlakcncbaaGreat12X
namespace Go.Proofs.YtgcoohlakcncbaaGreat
open Go.RowKit
set_option linter.unusedVariables false
set_option linter.unusedSimpArgs false
theorem ty_int12 : Ty Tryz.prog 50 2 (.int .i64 0) 1 8 := Ty.mk' Tryz.underlying50 (by kernel_rfl) rfl (by decide)
theorem takeK_len (P : List Fm) {j : Nat} (h : j ≤ P.length) : ((P.take j).map kdF).length = j := by rw [List.length_map, List.length_take]; omega
theorem takeK_succ (P : List Fm) {j : Nat} (h : j < P.length) : (P.take (j + 1)).map kdF = (P.take j).map kdF ++ [kdF (P.getD j .fls)] := by
  rw [List.take_succ_eq_append_getElem h, List.map_append, List.getD_eq_getElem?_getD, List.getElem?_eq_getElem h]
  rfl
theorem trL_succ (P : List Fm) (m : Nat) : trL P (m + 1) = trL P m ++ [((trT P m : Nat) : Int)] := by
  unfold trL
  rw [List.range_succ, List.map_append]
  rfl
theorem liR_succ (t : Nat) : li (List.range (t + 1)) = li (List.range t) ++ [(t : Int)] := by
  unfold li
  rw [List.range_succ, List.map_append]
  rfl
theorem liF_succ (ts : List Nat) (q : Nat → Bool) (k : Nat) (h : k < ts.length) : li ((ts.take (k + 1)).filter q) = if q ts[k] = true then li ((ts.take k).filter q) ++ [(ts[k] : Int)] else li ((ts.take k).filter q) := by
  rw [List.take_succ_eq_append_getElem h, List.filter_append]
  by_cases hq : q ts[k] = true
  · rw [if_pos hq, List.filter_cons_of_pos hq]
    unfold li
    rw [List.map_append]
    rfl
  · rw [if_neg hq, List.filter_cons_of_neg hq]
    simp
/-- the space at first -/
theorem SpM.start {P : List Fm} {w : World} {v1 : Value} (h : Sl cS w v1 (P.map txt)) (hb : ∀ k, v1.ownBlock = some k → k < w.heap.size) :
    SpM P w.heap.size (w.heap.size + 2) 0 0 0 (fun k => if k = w.heap.size + 2 then 1 else if k = w.heap.size then 2 else if k = w.heap.size + 1 then 3 else 0) v1 (.slice (some ⟨w.heap.size, 0, none⟩) 0 0) (.slice (some ⟨w.heap.size + 1, 0, none⟩) 0 0) (.slice none 0 0) []
      (((w.alloc (.cells #[] 2)).alloc (.cells #[] 26)).alloc (.cells (spCells v1 (.slice (some ⟨w.heap.size, 0, none⟩) 0 0) (.slice (some ⟨w.heap.size + 1, 0, none⟩) 0 0) (.slice none 0 0) (.slice none 0 0)) 182)) := by
  obtain ⟨B3, -, -, K3⟩ := box3 w #[] #[] (spCells v1 (.slice (some ⟨w.heap.size, 0, none⟩) 0 0) (.slice (some ⟨w.heap.size + 1, 0, none⟩) 0 0) (.slice none 0 0) (.slice none 0 0)) 2 26 182
  have hsz := B3.size
  refine ⟨K3, by simp, by omega, h.below B3, fun k e => ?_, ?_, fun k e => ?_, ?_, fun k e => ?_, rfl, fun i h => absurd h (Nat.not_lt_zero _), Ow.nil _ _, fun k e => (by cases e), fun k hk => ?_⟩
  · have := hb k e
    refine ⟨?_, by omega⟩
    rw [if_neg (by omega), if_neg (by omega), if_neg (by omega)]
  · exact ((Ow.lit' (K := cI) (e := 2) (B := w.heap.size) (w := w) [] (cs := #[]) (n := 0) (g := w.heap.size) rfl rfl rfl (Nat.le_refl _)).alloc _).alloc _
  · have e : w.heap.size = k := by simpa [Value.ownBlock] using e
    subst e
    simp
  · exact (Ow.lit' (K := cH) (e := 26) (B := w.heap.size) (w := w.alloc (.cells #[] 2)) [] (cs := #[]) (n := 0) (g := w.heap.size + 1) (by simp) rfl rfl (by omega)).alloc _
  · have e : w.heap.size + 1 = k := by simpa [Value.ownBlock] using e
    subst e
    simp
  · rw [if_neg (by omega), if_neg (by omega), if_neg (by omega)]
set_option maxRecDepth 100000 in
set_option maxHeartbeats 4000000 in
theorem spec_l12Make (f g : Fm) (P : List Fm) (N : Nat) (hPE : elF [f, g] = P) (hN : N = 2 ^ P.length) (hP : P.length ≤ 8) (lv rv : Value) (w : World) (hl : Sl cS w lv [txt f]) (hr : Sl cS w rv [txt g]) (hf : f.ok = true) (hg : g.ok = true) (h40 : (enc f).length ≤ 40) (h40' : (enc g).length ≤ 40) :
    Calls Tryz.prog 204 #[.string ⟨#[71, 76]⟩, .agg #[lv, rv]] w fun e w' => ∃ p v1 v2 v3 v4 v5 ts, e = .returned (.pointer (some ⟨p, 0, none⟩)) ∧ Blk w' p 182 (spCells v1 v2 v3 v4 v5) ∧ Sl cS w' v1 (P.map txt) ∧ Sl cI w' v5 (li ts) ∧
      (∀ k, v1.ownBlock = some k → k ≠ p ∧ k < w'.heap.size) ∧ (∀ k, v5.ownBlock = some k → k ≠ p ∧ k < w'.heap.size) ∧ (∀ t, t ∈ ts ↔ Alv P t) ∧ ts.length ≤ 256 ∧ (∀ t ∈ ts, t < N) ∧ w.heap.size ≤ p ∧ Below w.heap.size w w' := by
  obtain ⟨A0, c0, rfl⟩ := hl.opn
  obtain ⟨A1, c1, rfl⟩ := hr.opn
  have HL := Lib.hid hl
  have HR := Lib.hid hr
  clear hl hr
  rw [show [txt f].length = 1 from rfl] at HL ⊢
  rw [show [txt g].length = 1 from rfl] at HR ⊢
  have h256 : N ≤ 256 := hN ▸ pow8 hP
  have HEl := Lib.hid (fun W a b => hPE ▸ spec_l12Elementary_1 f g (.slice A0 1 c0) (.slice A1 1 c1) W a b hf hg h40 h40')
  have HPel : Hid (∀ x ∈ P, isel x = true ∧ x.ok = true ∧ (enc x).length ≤ 40 ∧ inP P x) := Lib.hid fun x hx => by
    have hgd : ∀ y ∈ [f, g], y.ok = true ∧ (enc y).length ≤ 40 := fun y hy => by
      simp only [List.mem_cons, List.not_mem_nil, or_false] at hy
      rcases hy with rfl | rfl
      · exact ⟨hf, h40⟩
      · exact ⟨hg, h40'⟩
    have hok : ∀ y ∈ [f, g], y.ok = true := fun y hy => (hgd y hy).1
    subst hPE
    exact ⟨((elF_mem hok).1 hx).1, elF_ok hok hx, elF_len hok (fun y hy => (hgd y hy).2) hx, elF_cl hok x hx⟩
  have HTr := Lib.hid (fun t p (ht : t < 4294967296) x => spec_l12True P t p (by omega) ht (fun g hg => (HPel.out g hg).2.1) x)
  have HEL : Hid (∀ i, i < P.length → isel (P.getD i .fls) = true) := Lib.hid fun i hi => (HPel.out _ (getD_memT hi)).1
  have HSt := Lib.hid (fun p t ts v W (ht : t < N) h1 h2 h3 h4 => spec_l12Stays P N p t ts hP hN ht h1 h2 HEL.out v W h3 h4)
  have HNP : Hid (N = 2 ^ P.length) := Lib.hid hN
  clear hPE hN hf hg h40 h40'
  go_enter Tryz.func204, Tryz.ntmps204
  go_upto_region 1 with fail
  have hb := below_alloc' w (.cells #[.slice A0 1 c0, .slice A1 1 c1] 41)
  have K1 := Lib.hid (Blk.new w 41 #[.slice A0 1 c0, .slice A1 1 c1])
  have HB := Lib.hid hb
  replace HL := Lib.hid (HL.out.below hb)
  replace HR := Lib.hid (HR.out.below hb)
  clear hb
  generalize World.alloc w _ = w1 at *
  have k0 := K1.out.cell 0
  have k1 := K1.out.cell 1
  have k2 := K1.out.lt
  go_wp2_with fail
  refine (HEl.out _ HL.out HR.out).mono ?_
  rintro e w2 ⟨u2, rfl, ho, hb⟩
  obtain ⟨A2, c2, rfl⟩ := ho.opn
  rw [List.length_map] at ho ⊢
  have SM0 := Lib.hid (SpM.start (P := P) ho.sl fun k e => (ho.block k e).2)
  have B2 := Lib.hid (bthen HB.out hb)
  clear ho hb k0 k1 k2 K1 HL HR HB HEl
  go_upto_region 2 with fail
  have hb3 := (box3 w2 #[] #[] (spCells (.slice A2 P.length c2) (.slice (some ⟨w2.heap.size, 0, none⟩) 0 0) (.slice (some ⟨w2.heap.size + 1, 0, none⟩) 0 0) (.slice none 0 0) (.slice none 0 0)) 2 26 182).1
  have B3 := Lib.hid (bthen B2.out hb3)
  have B23 := Lib.hid hb3
  clear hb3
  simp only [spCells] at SM0 B3 B23
  generalize World.alloc (World.alloc (World.alloc w2 _) _) _ = w3 at *
  rw [show w2.heap.size + 2 = w2.heap.size + 1 + 1 from rfl] at SM0
  obtain ⟨p, hp⟩ : ∃ p, w2.heap.size + 1 + 1 = p := ⟨_, rfl⟩
  rw [hp] at SM0 ⊢
  have HPB : Hid (w.heap.size ≤ p) := Lib.hid (by have := B2.out.size; omega)
  obtain ⟨B0, hB0⟩ : ∃ b, w2.heap.size = b := ⟨_, rfl⟩
  have HBB : Hid (w.heap.size ≤ B0) := Lib.hid (by have := B2.out.size; omega)
  rw [hB0] at SM0 ⊢
  clear hp hB0 B23 B2
  have b1 : w3.cell? ⟨p, 1, none⟩ = some (.slice A2 P.length c2) := SM0.out.blk.cell 1
  have b2 := SM0.out.blk.lt
  go_wp2
  clear b1 b2
  go_loopw [6, 7, 8] (fun i x7 x8 wr => ∃ (j : Nat) (c : Nat → Nat) (v2 v3 : Value) (hs : List Hd), j ≤ P.length ∧ i = .int .i64 j ∧ SpM P B0 p j j 0 c (.slice A2 P.length c2) v2 v3 (.slice none 0 0) hs wr ∧ Below w.heap.size w wr) (fun i _ _ _ => P.length - (intOf i).toNat)
  case atStart => exact ⟨0, _, _, _, _, Nat.zero_le _, rfl, SM0.out, B3.out⟩
  case round =>
    clear SM0 B3
    obtain ⟨j, c, v2, v3, hs, hj, rfl, hS, hb⟩ := hrel
    obtain ⟨w4, hw4⟩ : ∃ W, W = wr := ⟨_, rfl⟩
    subst hw4
    have S4 := Lib.hid hS
    have B4 := Lib.hid hb
    clear hS hb
    have b1 : w4.cell? ⟨p, 1, none⟩ = some (.slice A2 P.length c2) := S4.out.blk.cell 1
    have b2 := S4.out.blk.lt
    by_cases hlt : j < P.length
    · obtain ⟨b, o, rfl, hbl, hc0⟩ := S4.out.parts.atS (k := j) (by rw [List.length_map]; exact hlt)
      rw [map_get txt P .fls] at hc0
      have hgp := HPel.out _ (getD_memT hlt)
      have HKS := Lib.hid (takeK_succ P hlt)
      obtain ⟨q, hq⟩ : ∃ q, P.getD j .fls = q := ⟨_, rfl⟩
      rw [hq] at hc0 hgp HKS
      have HQ := Lib.hid hq
      clear hq
      have i1 : (j : Int) < (P.length : Int) := by omega
      have HT := Lib.hid (fun W => spec_l02GoodG q W hgp.2.1 hgp.2.2.1)
      have HL40 : (enc q).length ≤ 40 := hgp.2.2.1
      clear hgp
      go_wp2_with fail
      refine (HT.out _).mono ?_
      rintro e w5 ⟨A5, c5, rfl, ho5, hb5⟩
      obtain ⟨b5, o5, rfl, hbl5, hc5⟩ := ho5.sl.cell (k := 0) (enc_pos _)
      have hk0 : w5.cell? ⟨b5, o5, none⟩ = some (.int .i64 (kdF q)) := by
        have := hc5 0 (.int .i64 ((enc q)[0]'(enc_pos _)).1) rfl
        rw [kdF_enc] at this
        simpa using this
      have hpos := enc_pos q
      have hb5c : w4.heap.size ≤ b5 := (ho5.block b5 (by simp [Value.ownBlock])).1
      have S5 := Lib.hid ((S4.out.recl (recol c w4.heap.size 5) (fun k hk => recol_lt _ _ _ _ hk)).below hb5)
      have hc55 : recol c w4.heap.size 5 b5 = 5 := recol_ge _ _ _ _ hb5c
      have O5 := Lib.hid ho5
      have B5 := Lib.hid (B4.out.trans (hb5.mono B4.out.size))
      clear hc0 hbl ho5 hb5 hc5 b1 b2 HT S4 B4 hb5c
      generalize recol c w4.heap.size 5 = c' at *
      obtain ⟨A2', k2', e2⟩ := S5.out.kinds.opn
      rw [takeK_len P hj] at e2
      subst e2
      have hk2 : w5.cell? ⟨p, 2, none⟩ = some (.slice A2' j k2') := S5.out.blk.cell 2
      have hq1 : p < w5.heap.size ∧ c' p ≠ 2 := ⟨S5.out.blk.lt, by rw [S5.out.cp]; decide⟩
      have hq2 : b5 < w5.heap.size ∧ c' b5 ≠ 2 := ⟨hbl5, by rw [hc55]; decide⟩
      obtain ⟨kd, hkd⟩ : ∃ kd, kdF q = kd := ⟨_, rfl⟩
      rw [hkd] at hk0 HKS
      have hpl := hq1.1
      go_upto_region 6 with fail
      have hI : KpC c' 2 w5 (World.drew w5) := KpC.of (Below.refl _ _).drew
      refine wp_region_sched (KpC c' 2 w5) 11 [0, 1, 2, 3, 4, 5, 6, 7, 8] [0, 1, 2, 3, 4, 5, 6, 7, 8, 9, 10] (by kernel_rfl) (by kernel_rfl) hI ?_
      repeat
        apply wpSched_q rfl rfl
        case h =>
          intro w' hI K hK
          have hk2' := (hI.cell (p := ⟨p, 2, none⟩) hq1).trans hk2
          have hk0' := (hI.cell (p := ⟨b5, o5, none⟩) hq2).trans hk0
          simp only [quietV, stillV]
          go_simp
          exact hK
        go_simp
      refine wpSched_r rfl rfl ?_ hI
      intro K hK _
      go_simp
      refine hK _ _ (hI.alloc _) ?_
      clear hK K
      refine wpSched_r rfl rfl ?_ (hI.alloc _)
      intro K hK _
      refine step_oneS (K := cI) (World.drew w5) ty_int12 rfl _ _ rfl (B := B0) (v := .slice A2' j k2') (xs := (P.take j).map kdF) (by simp [Act.eval, Act.put]; done) (S5.out.kinds.drewN 1) kd rfl (by simp [Act.eval, Act.put]; done) (by rw [takeK_len P hj]; omega) ?_ ?_
      · show _ ≤ w5.heap.size
        have := S5.out.bp
        omega
      intro v6 w6 ho hg1 hb1 hat1
      have hk6 : KpC c' 2 w5 w6 := (hI.alloc _).grown hg1 S5.out.c2
      rw [← HKS.out] at ho
      obtain ⟨A6, c6, e6⟩ := ho.opn
      rw [takeK_len P hlt] at e6
      subst e6
      have S6 := Lib.hid (S5.out.put2 hk6 ho fun k e => by
        rcases hat1 with h | h
        · exact .inl (h.symm.trans e)
        · rw [h] at e; injection e with e; exact .inr (by rw [← e]; show _ ≤ w5.heap.size + 1; omega))
      have O6 := Lib.hid (O5.out.sl.kps (hk6.put S5.out.cp 2 (.slice A6 (j + 1) c6)) fun k e => by
        obtain rfl : b5 = k := by simpa [Value.ownBlock] using e
        rw [hc55]; decide)
      have B6 := Lib.hid (B5.out.trans ((KpS.toBelow (B := w.heap.size) (hk6.put S5.out.cp 2 (.slice A6 (j + 1) c6)) B5.out.size fun k hk e => ?_)))
      · have h2 : w6.cell? ⟨p, 2, none⟩ = some (.slice A2' j k2') := (hk6.cell (p := ⟨p, 2, none⟩) hq1).trans hk2
        have h3 : w6.frozen? ⟨p, 2, none⟩ = false := (KpS.frozen hk6 (p := ⟨p, 2, none⟩) hq1.1 hq1.2).trans (S5.out.blk.frozen 2)
        have h4 : p < w6.heap.size := Nat.lt_of_lt_of_le hq1.1 (KpS.size hk6)
        have hc56 : recol c' w5.heap.size 2 b5 = 5 := by rw [recol_lt _ _ _ _ hbl5]; exact hc55
        have hbl6 : b5 < (w6.setCell ⟨p, 2, none⟩ (.slice A6 (j + 1) c6)).heap.size := Nat.lt_of_lt_of_le hbl5 (KpS.size (hk6.put S5.out.cp 2 (.slice A6 (j + 1) c6)))
        refine hK _ _ hk6 ?_
        clear hK K ho hg1 hb1 hat1 hk6 hI hk2 hk0 hq1 hq2 hpl S5 O5 B5 hbl5 hc55
        refine wpSched_nil ?_
        try simp only [List.drop_succ_cons, List.drop_zero]
        go_upto_region 7 with fail
        clear h2 h3 h4
        generalize World.setCell w6 _ _ = w7 at *
        generalize recol c' w5.heap.size 2 = c7 at *
        obtain ⟨A3', k3', e3⟩ := S6.out.inner.opn
        rw [S6.out.hl] at e3
        subst e3
        have hk3 : w7.cell? ⟨p, 3, none⟩ = some (.slice A3' j k3') := S6.out.blk.cell 3
        have hq1 : p < w7.heap.size ∧ c7 p ≠ 3 := ⟨S6.out.blk.lt, by rw [S6.out.cp]; decide⟩
        have hpl := hq1.1
        have hI : KpC c7 3 w7 (World.drew w7) := KpC.of (Below.refl _ _).drew
        refine wp_region_sched (KpC c7 3 w7) 9 [0, 1, 2, 3, 4, 5] [0, 1, 2, 3, 4, 5, 6, 7, 8] (by kernel_rfl) (by kernel_rfl) hI ?_
        obtain ⟨-, hcc, hcm⟩ := O6.out.cap
        have hi1 : (1 : Int) ≤ ((enc q).length : Int) := by omega
        obtain ⟨A7, hA7, hs7⟩ : ∃ A7, (if c5 = 1 then some (⟨b5, o5, none⟩ : Addr) else some ⟨b5, o5 + 2, none⟩) = A7 ∧ Sl cN w7 (.slice A7 ((enc q).length - 1) (c5 - 1)) (enc q).tail := by
          refine ⟨_, rfl, ?_⟩
          by_cases hc1 : c5 = 1
          · have hl1 : (enc q).length = 1 := by omega
            rw [if_pos hc1]
            have h9 := O6.out.cutAt (A' := some ⟨b5, o5 + 0, none⟩) (n' := (enc q).length - 1) (i := 0) (j := 0) (c' := c5 - 1) (by omega) (by omega) (by omega) (fun b1 o1 e => by injection e with e; injection e with e1 e2; subst e1; subst e2; rfl) (by omega) (by omega)
            have ht : (enc q).tail = [] := List.eq_nil_of_length_eq_zero (by rw [List.length_tail]; omega)
            rw [ht]
            simpa using h9
          · rw [if_neg hc1]
            have h9 := O6.out.cutAt (A' := some ⟨b5, o5 + 2, none⟩) (n' := (enc q).length - 1) (i := 1) (j := (enc q).length) (c' := c5 - 1) (by omega) (by omega) (by omega) (fun b1 o1 e => by injection e with e; injection e with e1 e2; subst e1; subst e2; rfl) (by omega) (by omega)
            rw [List.drop_one, List.take_of_length_le (by rw [List.length_tail]; omega)] at h9
            exact h9
        have H7 := Lib.hid hs7
        have HA7 := Lib.hid hA7
        have HOB : Hid (∀ k, (Value.slice A7 ((enc q).length - 1) (c5 - 1)).ownBlock = some k → k = b5) := Lib.hid fun k e => by
          rw [← hA7] at e
          split at e <;> (simp [Value.ownBlock] at e; exact e.symm)
        clear hs7 hA7
        repeat
          apply wpSched_q rfl rfl
          case h =>
            intro w' hI K hK
            have hk3' := (hI.cell (p := ⟨p, 3, none⟩) hq1).trans hk3
            simp only [quietV, stillV]
            go_simp
            exact hK
          go_simp
        refine wpSched_r rfl rfl ?_ hI
        intro K hK _
        go_simp
        rw [HA7.out]
        refine hK _ _ hI ?_
        clear hK K
        refine wpSched_r rfl rfl ?_ hI
        intro K hK _
        go_simp
        refine hK _ _ (hI.alloc _) ?_
        clear hK K
        refine wpSched_r rfl rfl ?_ (hI.alloc _)
        intro K hK _
        refine step_oneS (K := cH) (World.drew w7) ty_nodes12 rfl _ _ rfl (B := B0) (v := .slice A3' j k3') (xs := hs) (by simp [Act.eval, Act.put]; done) (S6.out.inner.drewN 1) ⟨A7, (enc q).length - 1, c5 - 1⟩ rfl (by simp [Act.eval, Act.put]; done) (by rw [S6.out.hl]; omega) ?_ ?_
        · show _ ≤ w7.heap.size
          have := S6.out.bp
          omega
        intro v8 w8 ho hg1 hb1 hat1
        have hk8 : KpC c7 3 w7 w8 := (hI.alloc _).grown hg1 S6.out.c3
        obtain ⟨A8, c8, e8⟩ := ho.opn
        rw [List.length_append, S6.out.hl, List.length_singleton] at e8
        subst e8
        have S8 := Lib.hid (S6.out.put3 hk8 ho (fun k e => by
          rcases hat1 with h | h
          · exact .inl (h.symm.trans e)
          · rw [h] at e; injection e with e; exact .inr (by rw [← e]; show _ ≤ w7.heap.size + 1; omega)) (by rw [HQ.out]; exact H7.out) (fun k e => by
            have := HOB.out k e
            subst this
            exact ⟨hc56, hbl6⟩))
        have B8 := Lib.hid (B6.out.trans ((KpS.toBelow (B := w.heap.size) (hk8.put S6.out.cp 3 (.slice A8 (j + 1) c8)) B6.out.size fun k hk e => ?_)))
        · have h2 : w8.cell? ⟨p, 3, none⟩ = some (.slice A3' j k3') := (hk8.cell (p := ⟨p, 3, none⟩) hq1).trans hk3
          have h3 : w8.frozen? ⟨p, 3, none⟩ = false := (KpS.frozen hk8 (p := ⟨p, 3, none⟩) hq1.1 hq1.2).trans (S6.out.blk.frozen 3)
          have h4 : p < w8.heap.size := Nat.lt_of_lt_of_le hq1.1 (KpS.size hk8)
          refine hK _ _ hk8 ?_
          clear hK K ho hg1 hb1 hat1 hk8 hI hk3 hq1 hpl S6 O6 B6 hbl6 hc56 H7 HA7 HOB hi1 hcc hcm HL40 hpos HQ HKS hkd
          refine wpSched_nil ?_
          try simp only [List.drop_succ_cons, List.drop_zero]
          go_wp2
          clear h2 h3 h4
          generalize World.setCell w8 _ _ = w9 at *
          go_roundw
          case rel => exact ⟨j + 1, _, _, _, _, by omega, by go_num, S8.out, B8.out⟩
          case measure => simp [intOf]; omega
        · have h9 := S6.out.low k (Nat.lt_of_lt_of_le hk HBB.out)
          rcases e with e | e <;> (rw [h9] at e; cases e)
      · have h9 := S5.out.low k (Nat.lt_of_lt_of_le hk HBB.out)
        rcases e with e | e <;> (rw [h9] at e; cases e)
    · obtain rfl : j = P.length := by omega
      clear hlt hj
      have hw1 : Hid (∀ W, Calls Tryz.prog 195 #[.int .i64 (P.length : Int)] W fun e w' => e = .returned (.int .i64 (N : Int)) ∧ W = w') := Lib.hid fun W => (spec_l01One (P.length : Int) W (by omega) (by omega)).mono fun e w' ⟨he, hw⟩ => ⟨by rw [he, HNP.out, Int.toNat_natCast, cast_two_pow], hw⟩
      go_upto_region 9 with fail
      have T0 := Lib.hid (Ow.lit (K := cI) (e := 2) (w := w4) (B := B0) [] rfl rfl (by have := S4.out.blk.lt; have := S4.out.bp; omega))
      have hb := below_alloc' w4 (.cells #[] 2)
      have S5 := Lib.hid ((S4.out.recl (recol c w4.heap.size 6) (fun k hk => recol_lt _ _ _ _ hk)).below hb)
      have B5 := Lib.hid (B4.out.trans (hb.mono B4.out.size))
      have T6 : Hid (∀ k, (Value.slice (some ⟨w4.heap.size, 0, none⟩) 0 0).ownBlock = some k → recol c w4.heap.size 6 k = 6) := Lib.hid fun k e => recol_ge _ _ _ _ (by
        have e : w4.heap.size = k := by simpa [Value.ownBlock] using e
        omega)
      clear hb b1 b2 S4 B4
      generalize World.alloc w4 _ = w5 at *
      generalize recol c w4.heap.size 6 = c5 at *
      have hn2 : (P.take P.length).map kdF = P.map kdF := by rw [List.take_length]
      obtain ⟨A2', k2', e2⟩ := S5.out.kinds.opn
      rw [hn2, List.length_map] at e2
      obtain ⟨A3, k3, e3⟩ := S5.out.inner.opn
      rw [S5.out.hl] at e3
      subst e2 e3
      have b1 : w5.cell? ⟨p, 1, none⟩ = some (.slice A2 P.length c2) := S5.out.blk.cell 1
      have b2 := S5.out.blk.lt
      go_wp2
      clear b1 b2
      go_loopw [9, 10, 11, 12] (fun tv i x11 x12 wr => ∃ (t : Nat) (c : Nat → Nat) (v4 : Value), t ≤ N ∧ i = .int .i64 t ∧ SpM P B0 p P.length P.length t c (.slice A2 P.length c2) (.slice A2' P.length k2') (.slice A3 P.length k3) v4 hs wr ∧ Ow cI 2 B0 wr tv (li (List.range t)) ∧ (∀ k, tv.ownBlock = some k → c k = 6) ∧ Below w.heap.size w wr) (fun _ i _ _ _ => N - (intOf i).toNat)
      case atStart => exact ⟨0, _, _, Nat.zero_le _, rfl, S5.out, T0.out, T6.out, B5.out⟩
      case round =>
        clear T0 B5 T6 S5 hn2
        obtain ⟨t, c, v4, ht, rfl, hS, hT, hTc, hb⟩ := hrel
        obtain ⟨w6, hw6⟩ : ∃ W, W = wr := ⟨_, rfl⟩
        subst hw6
        obtain ⟨At, ct, e4⟩ := hT.opn
        rw [li_length, List.length_range] at e4
        subst e4
        have S6 := Lib.hid hS
        have T6 := Lib.hid hT
        have TC6 := Lib.hid hTc
        have B6 := Lib.hid hb
        clear hS hT hTc hb
        have b1 : w6.cell? ⟨p, 1, none⟩ = some (.slice A2 P.length c2) := S6.out.blk.cell 1
        have b2 := S6.out.blk.lt
        go_wp2_with fail
        refine (hw1.out _).mono ?_
        rintro e w7 ⟨rfl, rfl⟩
        by_cases hlt : t < N
        · have i2 : (t : Int) < (N : Int) := by omega
          go_wp2
          clear b1 b2
          go_loopw [11, 12] (fun m i wr => ∃ k : Nat, k ≤ P.length ∧ i = .int .i64 k ∧ m = .int .i64 (msk (fun i => ism P i && vt P t (inn (P.getD i .fls))) k : Nat) ∧ Below w6.heap.size w6 wr) (fun _ i _ => P.length - (intOf i).toNat)
          case atStart => exact ⟨0, Nat.zero_le _, rfl, rfl, Below.refl _ _⟩
          case round =>
            obtain ⟨k, hk, rfl, rfl, hb⟩ := hrel
            obtain ⟨w7, hw7⟩ : ∃ W, W = wr := ⟨_, rfl⟩
            subst hw7
            have S7 := Lib.hid (S6.out.below hb)
            have B67 := Lib.hid hb
            clear hb
            have b1 : w7.cell? ⟨p, 2, none⟩ = some (.slice A2' P.length k2') := S7.out.blk.cell 2
            have b3 : w7.cell? ⟨p, 3, none⟩ = some (.slice A3 P.length k3) := S7.out.blk.cell 3
            have b2 := S7.out.blk.lt
            by_cases hkl : k < P.length
            · have i3 : (k : Int) < (P.length : Int) := by omega
              have hml := msk_ltT (fun i => ism P i && vt P t (inn (P.getD i .fls))) k
              have hms : msk (fun i => ism P i && vt P t (inn (P.getD i .fls))) (k + 1) = msk (fun i => ism P i && vt P t (inn (P.getD i .fls))) k ||| (if (ism P k && vt P t (inn (P.getD k .fls))) = true then 2 ^ k else 0) := rfl
              obtain ⟨b8, o8, rfl, hb8, hc8⟩ := S7.out.kinds.sl.atI (k := k) (by rw [takeK_len P (Nat.le_refl _)]; exact hkl)
              have hke : ((P.take P.length).map kdF)[k]'(by rw [takeK_len P (Nat.le_refl _)]; exact hkl) = kdF (P.getD k .fls) := by
                have h9 := map_get kdF P .fls (k := k) (by rw [List.length_map]; exact hkl)
                rw [← h9]
                congr 1
                rw [List.take_length]
              rw [hke] at hc8
              have hkh : k < hs.length := by rw [S7.out.hl]; exact hkl
              obtain ⟨b9, o9, rfl, hb9, hc9⟩ := S7.out.inner.sl.cell (k := k) hkh
              have hc9 : w7.cell? ⟨b9, o9 + k, none⟩ = some hs[k].val := by simpa [cH] using hc9 0 hs[k].val rfl
              have hrow := (S7.out.rows k hkh).1
              have hel := HEL.out k hkl
              have hism := kdF_ism hkl hel
              have hkel := kdF_el (P.getD k .fls)
              have hgp := HPel.out _ (getD_memT hkl)
              have h2k : 2 ^ k ≤ 256 := pow8 (by omega)
              have hone : Hid (∀ W, Calls Tryz.prog 195 #[.int .i64 (k : Int)] W fun e w' => e = .returned (.int .i64 ((2 ^ k : Nat) : Int)) ∧ W = w') := Lib.hid fun W => (spec_l01One (k : Int) W (by omega) (by omega)).mono fun e w' ⟨he, hw⟩ => ⟨by rw [he, Int.toNat_natCast, cast_two_pow], hw⟩
              cases him : ism P k
              · rw [him, Bool.false_and, if_neg (by decide), Nat.or_zero] at hms
                rw [him] at hism
                rw [hel, ← hism, Bool.or_false] at hkel
                have hk0 : kdF (P.getD k .fls) = 0 := by simpa using hkel.symm
                rw [hk0] at hc8
                have HMS := Lib.hid hms
                clear him hism hkel hk0 hke hgp hel hrow hone hms h2k hml
                generalize msk (fun i => ism P i && vt P t (inn (P.getD i .fls))) k = mk at *
                go_wp2
                go_roundw
                case rel => exact ⟨k + 1, by omega, by go_num, by rw [HMS.out], B67.out⟩
                case measure => simp [intOf]; omega
              · obtain ⟨uk, fa, hfa⟩ := ism_at him
                rw [him, Bool.true_and] at hms
                rw [him, eq_comm, Bool.or_eq_true] at hism
                have hk56 : kdF (P.getD k .fls) = 5 ∨ kdF (P.getD k .fls) = 6 := by simpa using hism
                rw [hfa] at hrow hgp hms
                have hrow2 : Sl cN w7 hs[k].val (enc fa) := hrow
                have HTk := Lib.hid (HTr.out t p (by omega) fa hgp.2.1 (by have := hgp.2.2.1; simp [enc] at this; omega) hgp.2.2.2.2)
                have hfi : inn (.un uk fa) = fa := rfl
                rw [hfi] at hms
                have HMS := Lib.hid hms
                have HR2 := Lib.hid hrow2
                clear him hism hkel hke hgp hel hrow hrow2 hfa hms hfi
                generalize kdF (P.getD k .fls) = kd at *
                generalize msk (fun i => ism P i && vt P t (inn (P.getD i .fls))) k = mk at *
                generalize hs[k].val = hv at *
                generalize 2 ^ k = pk at *
                have e9 := i64_or_nat mk pk (by omega) (by omega)
                have HSP := Lib.hid S7.out.sp
                rcases hk56 with rfl | rfl
                all_goals
                  go_wp2_with fail
                  refine (HTk.out _ _ HSP.out HR2.out).mono ?_
                  rintro e w8 ⟨rfl, hb⟩
                  have B68 := Lib.hid (bthen B67.out hb)
                  clear hb b1 b3 b2 hb8 hc8 hb9 hc9
                  cases hvt : vt P t fa
                  · rw [hvt, if_neg (by decide), Nat.or_zero] at HMS
                    clear hvt e9
                    go_wp2
                    go_roundw
                    case rel => exact ⟨k + 1, by omega, by go_num, by rw [HMS.out], B68.out⟩
                    case measure => simp [intOf]; omega
                  · rw [hvt, if_pos rfl] at HMS
                    clear hvt
                    go_wp2_with fail
                    refine (hone.out _).mono ?_
                    rintro e w9 ⟨rfl, rfl⟩
                    go_wp2
                    go_roundw
                    case rel => exact ⟨k + 1, by omega, by go_num, by rw [HMS.out], B68.out⟩
                    case measure => simp [intOf]; omega
            · obtain rfl : k = P.length := by omega
              clear hk hkl
              obtain ⟨mt, hmt⟩ : ∃ mt, msk (fun i => ism P i && vt P t (inn (P.getD i .fls))) P.length = mt := ⟨_, rfl⟩
              have HMT : Hid (mt = trT P t) := Lib.hid hmt.symm
              rw [hmt]
              clear hmt
              obtain ⟨A4, k4, e4⟩ := S7.out.truth.opn
              rw [trL_length] at e4
              subst e4
              have hk4 : w7.cell? ⟨p, 4, none⟩ = some (.slice A4 t k4) := S7.out.blk.cell 4
              have hq1 : p < w7.heap.size ∧ c p ≠ 4 := ⟨S7.out.blk.lt, by rw [S7.out.cp]; decide⟩
              have hpl := hq1.1
              clear b1 b2
              have hw7 : B0 ≤ w7.heap.size := by have := S7.out.bp; omega
              go_wp2_with (at_builtin; refine stopHere ?_)
              refine goHere ?_
              refine ap_one (K := cI) _ ty_int12 rfl _ _ rfl (B := B0) (v := .slice A4 t k4) (xs := trL P t) rfl S7.out.truth (mt : Int) rfl rfl (by rw [trL_length]; omega) hw7 ?_
              intro v8 w8 ho hg1 hb1 hat1
              have hk8 : KpC c 4 w7 w8 := ((KpC.of (Below.refl _ _)).alloc _).grown hg1 S7.out.c4
              rw [HMT.out, ← trL_succ] at ho
              obtain ⟨A8, c8, e8⟩ := ho.opn
              rw [trL_length] at e8
              subst e8
              have hput := hk8.put S7.out.cp 4 (.slice A8 (t + 1) c8)
              have S8 := Lib.hid (S7.out.put4 hk8 ho fun k e => by
                rcases hat1 with h | h
                · exact .inl (h.symm.trans e)
                · rw [h] at e; injection e with e; exact .inr (by rw [← e]; show _ ≤ w7.heap.size + 1; omega))
              have T7 := T6.out.below B67.out
              have T8 := Lib.hid (T7.kps hput fun k e => by rw [TC6.out k e]; decide)
              have TC8 : Hid (∀ k, (Value.slice At t ct).ownBlock = some k → recol c w7.heap.size 4 k = 6) := Lib.hid fun k e => by
                rw [recol_lt _ _ _ _ (T7.block k e).2]; exact TC6.out k e
              have B7 := Lib.hid (B6.out.trans (B67.out.mono B6.out.size))
              have B8 := Lib.hid (B7.out.trans ((KpS.toBelow (B := w.heap.size) hput B7.out.size fun k hk e => by
                have h9 := S7.out.low k (Nat.lt_of_lt_of_le hk HBB.out)
                rcases e with e | e <;> (rw [h9] at e; cases e))))
              have h2 : w8.cell? ⟨p, 4, none⟩ = some (.slice A4 t k4) := (hk8.cell (p := ⟨p, 4, none⟩) hq1).trans hk4
              have h3 : w8.frozen? ⟨p, 4, none⟩ = false := (KpS.frozen hk8 (p := ⟨p, 4, none⟩) hq1.1 hq1.2).trans (S7.out.blk.frozen 4)
              have h4 : p < w8.heap.size := Nat.lt_of_lt_of_le hq1.1 (KpS.size hk8)
              clear ho hg1 hb1 hat1 hk8 hk4 hq1 hpl S7 T7 B7 B67 T6 TC6 B6 S6 hput HMT b3 hw7
              go_upto_region 19 with fail
              clear h2 h3 h4
              generalize World.setCell w8 _ _ = w9 at *
              generalize recol c w7.heap.size 4 = c9 at *
              have HTy := Lib.hid (spec_l12Type_GL p (t : Int) w9 S8.out.blk.lt (S8.out.blk.cell 0))
              go_wp2_with fail
              refine HTy.out.mono ?_
              rintro e w10 ⟨rfl, rfl⟩
              have hw9 : B0 ≤ w10.heap.size := by have := S8.out.blk.lt; have := S8.out.bp; omega
              go_wp2_with (at_builtin; refine stopHere ?_)
              refine goHere ?_
              refine ap_one (K := cI) _ ty_int12 rfl _ _ rfl (B := B0) (v := .slice At t ct) (xs := li (List.range t)) rfl T8.out (t : Int) rfl rfl (by rw [li_length, List.length_range]; omega) hw9 ?_
              intro v11 w11 ho hg1 hb1 hat1
              rw [← liR_succ] at ho
              have hk11 : KpC c9 6 w10 w11 := ((KpC.of (Below.refl _ _)).alloc _).grown hg1 TC8.out
              have S11 := Lib.hid (S8.out.other hk11)
              have T11 := Lib.hid ho
              have TC11 : Hid (∀ k, v11.ownBlock = some k → recol c9 w10.heap.size 6 k = 6) := Lib.hid fun k e => by
                rcases hat1 with h | h
                · rw [recol_lt _ _ _ _ (T8.out.block k (h.symm.trans e)).2]; exact TC8.out k (h.symm.trans e)
                · rw [h] at e; injection e with e; exact recol_ge _ _ _ _ (by omega)
              have B11 := Lib.hid (B8.out.trans (hb1.mono HBB.out))
              clear ho hg1 hb1 hat1 hk11 S8 T8 TC8 B8 HTy
              go_wp2
              go_roundw
              case rel => exact ⟨t + 1, _, _, by omega, by go_num, S11.out, T11.out, TC11.out, B11.out⟩
              case measure => simp [intOf]; omega
        · obtain rfl : N = t := by omega
          have SR6 : Hid (SpR P N p w6) := Lib.hid S6.out.r
          have HI0 : Hid (InvL P (List.range N)) := Lib.hid ⟨fun t ht => by rw [← HNP.out]; exact List.mem_range.1 ht, fun t ht => List.mem_range.2 (by rw [HNP.out]; exact ht.lt)⟩
          have HTP : Hid (∀ k, (Value.slice At N ct).ownBlock = some k → k ≠ p ∧ k < w6.heap.size) := Lib.hid fun k e => by
            refine ⟨fun e2 => ?_, (T6.out.block k e).2⟩
            have h1 := TC6.out k e
            rw [e2, S6.out.cp] at h1
            cases h1
          have HT6 := Lib.hid T6.out.sl
          clear T6 TC6 ht hlt hw1 HTr HPel HEL
          go_wp2
          clear b1 b2
          go_loopw [9, 13, 14] (fun tv x13 x14 wr => ∃ ts : List Nat, InvL P ts ∧ Sl cI wr tv (li ts) ∧ (∀ k, tv.ownBlock = some k → k ≠ p ∧ k < wr.heap.size) ∧ ts.length ≤ 256 ∧ Below w6.heap.size w6 wr) (fun tv _ _ _ => match tv with | .slice _ n _ => n | _ => 0)
          case atStart => exact ⟨_, HI0.out, HT6.out, HTP.out, by rw [List.length_range]; exact h256, Below.refl _ _⟩
          case round =>
            clear HI0 HT6 HTP
            obtain ⟨ts, hi, hS, hTp, hl, hb⟩ := hrel
            obtain ⟨w7, hw7⟩ : ∃ W, W = wr := ⟨_, rfl⟩
            subst hw7
            obtain ⟨A7, c7, e7⟩ := hS.opn
            rw [li_length] at e7
            subst e7
            have HI := Lib.hid hi
            have T7 := Lib.hid hS
            have TP := Lib.hid hTp
            have B67 := Lib.hid hb
            have SR7 := Lib.hid (SR6.out.below hb)
            clear hi hS hTp hb
            have HTN : Hid (∀ k (h : k < ts.length), ts[k] < N) := Lib.hid fun k h => by rw [HNP.out]; exact HI.out.1 _ (List.getElem_mem h)
            have HST := Lib.hid (fun t W (ht : t < N) (h3 : SpR P N p W) (h4 : Sl cI W (.slice A7 ts.length c7) (li ts)) => HSt.out p t ts (.slice A7 ts.length c7) W ht (fun u hu => by rw [HNP.out]; exact HI.out.1 u hu) hl h3 h4)
            obtain ⟨n, hn⟩ : ∃ n, ts.length = n := ⟨_, rfl⟩
            have HN := Lib.hid hn
            rw [hn] at T7 TP HST hl ⊢
            clear hn
            have O8 := Lib.hid (Ow.lit (K := cI) (e := 2) (w := w7) (B := w7.heap.size) [] rfl rfl (Nat.le_refl _))
            have B78 := Lib.hid (below_alloc' w7 (.cells #[] 2))
            go_wp2
            go_loopw [13, 14] (fun nv i wr => ∃ k : Nat, k ≤ n ∧ i = .int .i64 k ∧ Ow cI 2 w7.heap.size wr nv (li ((ts.take k).filter (SurL P ts))) ∧ Below w7.heap.size w7 wr) (fun _ i _ => n - (intOf i).toNat)
            case atStart => exact ⟨0, Nat.zero_le _, rfl, by rw [List.take_zero]; exact O8.out, B78.out⟩
            case round =>
              clear O8 B78
              obtain ⟨k, hk, rfl, ho, hb⟩ := hrel
              obtain ⟨w8, hw8⟩ : ∃ W, W = wr := ⟨_, rfl⟩
              subst hw8
              obtain ⟨A8, c8, e8⟩ := ho.opn
              obtain ⟨m, hm⟩ : ∃ m, (li ((ts.take k).filter (SurL P ts))).length = m := ⟨_, rfl⟩
              have hmb : m ≤ k := by
                rw [← hm, li_length]
                have h1 := List.length_filter_le (SurL P ts) (ts.take k)
                rw [List.length_take] at h1
                omega
              rw [hm] at e8
              subst e8
              have HM := Lib.hid hm
              have O8 := Lib.hid ho
              have B78 := Lib.hid hb
              have T8 := Lib.hid (T7.out.below hb)
              have SR8 := Lib.hid (SR7.out.below hb)
              clear ho hb hm
              by_cases hkl : k < n
              · have hkt : k < ts.length := by rw [HN.out]; exact hkl
                obtain ⟨b, o, rfl, hbl, hc⟩ := T8.out.atI (k := k) (by rw [li_length]; exact hkt)
                have hle : (li ts)[k]'(by rw [li_length]; exact hkt) = ((ts[k] : Nat) : Int) := by simp [li]
                rw [hle] at hc
                have HX := Lib.hid (HST.out ts[k] w8 (HTN.out k hkt) SR8.out T8.out)
                have HLF := Lib.hid (liF_succ ts (SurL P ts) k hkt)
                have i1 : (k : Int) < (n : Int) := by omega
                clear hle
                generalize ts[k] = tk at *
                go_wp2_with fail
                refine HX.out.mono ?_
                rintro e w9 ⟨rfl, hb⟩
                have B89 := Lib.hid hb
                have B79 := Lib.hid (bthen B78.out hb)
                have O9 := Lib.hid (O8.out.below hb)
                have hc9 := (hb.cell (p := ⟨b, o + k, none⟩) hbl).trans hc
                have hbl9 : b < w9.heap.size := Nat.lt_of_lt_of_le hbl hb.size
                clear hb hc hbl
                cases hs : SurL P ts tk
                · rw [if_neg (by rw [hs]; decide)] at HLF
                  clear hs
                  go_wp2
                  go_roundw
                  case rel => exact ⟨k + 1, by omega, by go_num, by rw [HLF.out]; exact O9.out, B79.out⟩
                  case measure => simp [intOf]; omega
                · rw [if_pos hs] at HLF
                  clear hs
                  go_wp2_with (at_builtin; refine stopHere ?_)
                  refine goHere ?_
                  refine ap_one (K := cI) _ ty_int12 rfl _ _ rfl (B := w7.heap.size) (v := .slice A8 m c8) (xs := li ((ts.take k).filter (SurL P ts))) rfl O9.out (tk : Int) rfl rfl (by rw [HM.out]; omega) B79.out.size ?_
                  intro v10 w10 ho hg1 hb1 hat1
                  rw [← HLF.out] at ho
                  have O10 := Lib.hid ho
                  have B10 := Lib.hid (B79.out.trans hb1)
                  clear ho hg1 hb1 hat1
                  go_wp2
                  go_roundw
                  case rel => exact ⟨k + 1, by omega, by go_num, O10.out, B10.out⟩
                  case measure => simp [intOf]; omega
              · obtain rfl : n = k := by omega
                have HTA : Hid (ts.take n = ts) := Lib.hid (by rw [← HN.out, List.take_length])
                rw [HTA.out] at O8 HM
                have B68 := Lib.hid (bthen B67.out B78.out)
                have hz67 := B67.out.size
                have hpl6 := S6.out.blk.lt
                by_cases hmn : m = n
                · subst hmn
                  have HDone : Hid (∀ t, t ∈ ts ↔ Alv P t) := Lib.hid fun t => HI.out.done (by have h1 := HM.out; rw [li_length] at h1; have h2 := HN.out; omega)
                  have KP := Lib.hid (S6.out.blk.below B68.out hpl6)
                  have h2 : w8.cell? ⟨p, 5, none⟩ = some (.slice none 0 0) := KP.out.cell 5
                  have h3 := KP.out.frozen 5
                  have h4 := KP.out.lt
                  have KP2 := Lib.hid (KP.out.set_ 5 (.slice A7 m c7))
                  have SP2 := Lib.hid ((S6.out.parts.below B68.out).kps (keepP p 5 (.slice A7 m c7)) fun k e e2 => by
                    have h1 := (S6.out.c1 k e).1
                    rw [e2, S6.out.cp] at h1
                    cases h1)
                  have ST2 := Lib.hid (T8.out.kps (keepP p 5 (.slice A7 m c7)) fun k e => (TP.out k e).1)
                  have B9 := Lib.hid ((B6.out.trans (B68.out.mono B6.out.size)).setCell (p := ⟨p, 5, none⟩) HPB.out (.slice A7 m c7))
                  have hsz9 : w8.heap.size ≤ (w8.setCell ⟨p, 5, none⟩ (.slice A7 m c7)).heap.size := KpS.size (keepP (w := w8) p 5 (.slice A7 m c7))
                  have hz68 := B68.out.size
                  have hz78 := B78.out.size
                  have HC1 : Hid (∀ k, (Value.slice A2 P.length c2).ownBlock = some k → k ≠ p ∧ k < (w8.setCell ⟨p, 5, none⟩ (.slice A7 m c7)).heap.size) := Lib.hid fun k e => by
                    refine ⟨fun e2 => ?_, by have := (S6.out.c1 k e).2; omega⟩
                    have h1 := (S6.out.c1 k e).1
                    rw [e2, S6.out.cp] at h1
                    cases h1
                  have TP2 : Hid (∀ k, (Value.slice A7 m c7).ownBlock = some k → k ≠ p ∧ k < (w8.setCell ⟨p, 5, none⟩ (.slice A7 m c7)).heap.size) := Lib.hid fun k e => ⟨(TP.out k e).1, by have := (TP.out k e).2; omega⟩
                  clear hsz9 hz68 hz78
                  have HTS : Hid (∀ t ∈ ts, t < N) := Lib.hid fun t ht => by rw [HNP.out]; exact HI.out.1 t ht
                  have HLN : Hid (ts.length ≤ 256) := Lib.hid (by rw [HN.out]; exact hl)
                  clear S6 SR6 SR7 SR8 T7 T8 O8 HM HI HST HTN HTA HSt
                  go_wp2
                  go_ret
                  exact ⟨p, _, _, _, _, _, ts, rfl, KP2.out, SP2.out, ST2.out, HC1.out, TP2.out, HDone.out, HLN.out, HTS.out, HPB.out, B9.out⟩
                · have hmi : ((m : Int) == (n : Int)) = false := by simp only [beq_eq_false_iff_ne, ne_eq]; omega
                  have HI2 := Lib.hid (HI.out.step)
                  have HOS : Hid (∀ k, (Value.slice A8 m c8).ownBlock = some k → k ≠ p ∧ k < w8.heap.size) := Lib.hid fun k e => by
                    have := O8.out.block k e
                    omega
                  have HL2 : Hid ((ts.filter (SurL P ts)).length ≤ 256) := Lib.hid (by have := HM.out; rw [li_length] at this; omega)
                  go_wp2
                  go_roundw
                  case rel => exact ⟨_, HI2.out, O8.out.sl, HOS.out, HL2.out, B68.out⟩
                  case measure => simp; omega
end Go.Proofs.YtgcoohlakcncbaaGreat

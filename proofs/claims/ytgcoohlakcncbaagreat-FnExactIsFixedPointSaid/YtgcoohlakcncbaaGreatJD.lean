/- Joined of several texts: 12A, 12B, 12C. -/
import Derived.Test.YtgcoohlakcncbaaGreat12P
import Derived.Test.YtgcoohlakcncbaaGreatJA
import Derived.Test.YtgcoohlakcncbaaGreatJB
import Derived.Test.YtgcoohlakcncbaaGreatJC
import Derived.Test.YtgcoohlakcncbaaGreatM3
namespace Go.Proofs.YtgcoohlakcncbaaGreat
open Go.RowKit
set_option linter.unusedVariables false
set_option linter.unusedSimpArgs false
/- Contracts of chapter 12, of the program: the formulas of texts, the parts of some formulas, the elementary parts of a sequent. -/
theorem ty_nodes12 : Ty Tryz.prog 46 26 (.slice none 0 0) 1 24 := Ty.mk' Tryz.underlying46 (by kernel_rfl) rfl (by decide)
/-- formulas in a list -/
def fmS : RowS Hd Fm := ⟨cH, 26, fun h => h.val.ownBlock, fun w h f => Sl cN w h.val (enc f), fun h hs hk => h.keptAt hs hk⟩
def gdF (fs : List Fm) : Prop := ∀ f ∈ fs, f.ok = true ∧ (enc f).length ≤ 40
theorem gdF.take {fs : List Fm} (h : gdF fs) (k : Nat) : gdF (fs.take k) := fun f hf => h f (List.mem_of_mem_take hf)
theorem impl_formulasOf (fs : List Fm) (v : Value) (w : World) (h : Sl cS w v (fs.map txt)) (hg : gdF fs) (hl : fs.length ≤ 1000) :
    Calls Tryz.prog 136 #[v] w fun e w' => ∃ u, e = .returned u ∧ Grw fmS w.heap.size w' u fs ∧ Below w.heap.size w w' := by
  obtain ⟨A, c, rfl⟩ := h.opn
  rw [List.length_map] at h ⊢
  have H := Lib.hid h
  have HG := Lib.hid hg
  have HT0 : Hid (fs.take 0 = []) := Lib.hid (by simp)
  have HTL : Hid (∀ j, j ≤ fs.length → (fs.take j).length = j) := Lib.hid fun j hj => by rw [List.length_take]; omega
  have HTA : Hid (fs.take fs.length = fs) := Lib.hid (List.take_length)
  clear h hg
  go_enter Tryz.func136, Tryz.ntmps136
  go_wp2
  go_loopw [3, 8] (fun ov i wr => ∃ j : Nat, j ≤ fs.length ∧ i = .int .i64 j ∧ Grw fmS w.heap.size wr ov (fs.take j) ∧ Below w.heap.size w wr) (fun _ i _ => fs.length - (intOf i).toNat)
  case atStart => exact ⟨0, Nat.zero_le _, rfl, by rw [HT0.out]; exact Grw.nil _ _, Below.refl _ _⟩
  case round =>
    obtain ⟨j, hj, rfl, ho, hb⟩ := hrel
    obtain ⟨w1, hw1⟩ : ∃ W, W = wr := ⟨_, rfl⟩
    subst hw1
    obtain ⟨A1, c1, rfl⟩ := ho.opn
    rw [HTL.out j hj] at ho ⊢
    have O := Lib.hid ho
    have HB := Lib.hid hb
    clear ho
    by_cases hlt : j < fs.length
    · obtain ⟨b, o, rfl, hbl, hc⟩ := (H.out.below hb).cell (k := j) (by rw [List.length_map]; exact hlt)
      have hc0 : w1.cell? ⟨b, o + j, none⟩ = some (.string (txt fs[j])) := by
        have := hc 0 (.string (txt fs[j])) (by simp [cS])
        simpa [cS] using this
      have hgj := HG.out fs[j] (List.getElem_mem hlt)
      have HP := Lib.hid (fun W => impl_parsedG fs[j] W hgj.1 hgj.2)
      have HT : Hid (fs.take (j + 1) = fs.take j ++ [fs[j]]) := Lib.hid (List.take_succ_eq_append_getElem hlt)
      have i1 : (j : Int) < (fs.length : Int) := by omega
      have HL1 := Lib.hid (HTL.out j hj)
      clear hc hb hgj
      generalize fs[j] = f at *
      go_wp2_with fail
      refine (HP.out _).mono ?_
      rintro e w2 ⟨A2, c2, rfl, ho2, hb2⟩
      have O2 := O.out.below hb2
      obtain ⟨hs, g1, g2, g3⟩ := O2.push (S := fmS) (a := ⟨A2, (enc f).length, c2⟩) (b := f) ho2.sl (fun k e => by
        have := ho2.block k e
        refine ⟨by have := HB.out.size; omega, this.2, fun e2 => ?_⟩
        have := (O.out.blk k e2).2
        omega)
      have G1 := Lib.hid g1
      have G2 : Hid (hs.length = j) := Lib.hid (by rw [g2, HL1.out])
      have G3 := Lib.hid g3
      have B2 := Lib.hid (HB.out.trans (hb2.mono HB.out.size))
      clear hc0 hbl ho2 hb2 O2 g1 g2 g3
      go_wp2_with (at_builtin; refine stopHere ?_)
      refine goHere ?_
      refine ap_one (K := cH) _ ty_nodes12 rfl _ _ rfl (B := w.heap.size) (v := .slice A1 j c1) (xs := hs) rfl G1.out ⟨A2, (enc f).length, c2⟩ rfl rfl (by rw [G2.out]; omega) B2.out.size ?_
      intro v3 w3 ho hg1 hb1 hat
      have O3 := Lib.hid (G3.out w3 v3 _ (World.grownBy_alloc _ _ none) (by simp) ho hg1 hat)
      have B3 := Lib.hid (B2.out.trans hb1)
      clear ho hg1 hb1 hat
      go_wp2
      go_roundw
      case rel => exact ⟨j + 1, by omega, by go_num, by rw [HT.out]; exact O3.out, B3.out⟩
      case measure => simp [intOf]; omega
    · obtain rfl : j = fs.length := by omega
      rw [HTA.out] at O
      clear hb
      go_wp2
      go_ret
      exact ⟨_, rfl, O.out, HB.out⟩
theorem impl_formulasSeq (fs gs : List Fm) (lv rv : Value) (w : World) (hl : Sl cS w lv (fs.map txt)) (hr : Sl cS w rv (gs.map txt)) (hn : fs.length + gs.length ≤ 1000) :
    Calls Tryz.prog 137 #[.agg #[lv, rv]] w fun e w' => ∃ u, e = .returned u ∧ Ow cS 9 w.heap.size w' u ((fs ++ gs).map txt) ∧ Below w.heap.size w w' := by
  obtain ⟨A0, c0, rfl⟩ := hl.opn
  obtain ⟨A1, c1, rfl⟩ := hr.opn
  have HL := Lib.hid hl
  have HR := Lib.hid hr
  clear hl hr
  have LL : (fs.map txt).length = fs.length := List.length_map ..
  have LR : (gs.map txt).length = gs.length := List.length_map ..
  rw [LL] at HL ⊢
  rw [LR] at HR ⊢
  clear LL LR
  go_enter Tryz.func137, Tryz.ntmps137
  go_upto_region 1 with fail
  have hb := below_alloc' w (.cells #[.slice A0 fs.length c0, .slice A1 gs.length c1] 41)
  have K1 := Lib.hid (Blk.new w 41 #[.slice A0 fs.length c0, .slice A1 gs.length c1])
  have HB := Lib.hid hb
  replace HL := Lib.hid (HL.out.below hb)
  replace HR := Lib.hid (HR.out.below hb)
  clear hb
  generalize World.alloc w _ = w1 at *
  have k0 := K1.out.cell 0
  have k1 := K1.out.cell 1
  have k2 := K1.out.lt
  have hb2 := below_alloc' w1 (.cells #[.slice A0 fs.length c0, .slice A1 gs.length c1] 38)
  have H2 : Sl2 cS (w1.alloc (.cells #[.slice A0 fs.length c0, .slice A1 gs.length c1] 38)) (.slice (some ⟨w1.heap.size, 0, none⟩) 2 2) [fs.map txt, gs.map txt] := by
    refine ⟨[⟨A0, fs.length, c0⟩, ⟨A1, gs.length, c1⟩], (Ow.lit (K := cH) (e := 38) (B := w1.heap.size) [⟨A0, fs.length, c0⟩, ⟨A1, gs.length, c1⟩] rfl rfl (Nat.le_refl _)).sl, rfl, fun i a b => ?_⟩
    have hi : i = 0 ∨ i = 1 := by simp at a; omega
    rcases hi with rfl | rfl
    · exact HL.out.below hb2
    · exact HR.out.below hb2
  have HC := Lib.hid (slices_Concat_strs _ _ _ H2 (by simp) (by simp; omega))
  have B2 := Lib.hid (bthen HB.out hb2)
  clear hb2 H2
  go_wp2_with fail
  refine HC.out.mono ?_
  rintro e w3 ⟨u, rfl, ho, hb⟩
  have O := Lib.hid (ho.mono B2.out.size)
  have B3 := Lib.hid (bthen B2.out hb)
  have HE : Hid ([fs.map txt, gs.map txt].flatten = (fs ++ gs).map txt) := Lib.hid (by simp)
  clear ho hb k0 k1 k2
  go_wp2
  go_ret
  exact ⟨_, rfl, by rw [← HE.out]; exact O.out, B3.out⟩
theorem alL_snoc (fs : List Fm) (f : Fm) : alL (fs ++ [f]) = alL fs ++ sbT8 f (enc f).length := by unfold alL; rw [List.flatMap_append]; simp
set_option maxRecDepth 100000 in
theorem impl_subformulasL (fs : List Fm) (T : Nat → Prop) (v : Value) (w : World) (h : RdS fmS T w v fs) (hg : gdF fs) (hl : fs.length ≤ 1000) :
    Calls Tryz.prog 135 #[v] w fun e w' => ∃ u, e = .returned u ∧ Ow cS 9 w.heap.size w' u (bs (alT fs)) ∧ Below w.heap.size w w' := by
  obtain ⟨A, c, rfl⟩ := h.opn
  have H := Lib.hid h
  have HG := Lib.hid hg
  have A0 := Lib.hid (Below.refl w.heap.size w)
  have HT0 : Hid (alL (fs.take 0) = []) := Lib.hid (by simp [alL])
  have HTA : Hid (fs.take fs.length = fs) := Lib.hid (List.take_length)
  have HLN : Hid (∀ j, j ≤ fs.length → (alL (fs.take j)).length ≤ 40000) := Lib.hid fun j hj => by
    have := alL_len (fs.take j) fun f hf => (hg f (List.mem_of_mem_take hf)).2
    rw [List.length_take] at this
    omega
  clear h hg
  go_enter Tryz.func135, Tryz.ntmps135
  go_wp2
  go_loopw [3, 9] (fun q i wr => ∃ j : Nat, i = .int .i64 (j : Int) ∧ j ≤ fs.length ∧ Ow cS 9 w.heap.size wr q (bs (alL (fs.take j))) ∧ Below w.heap.size w wr) (fun _ i _ => fs.length - (intOf i).toNat)
  case atStart => exact ⟨0, rfl, Nat.zero_le _, by rw [HT0.out]; exact Ow.nil _ _, A0.out⟩
  case round =>
    clear A0
    obtain ⟨j, rfl, hj, ho, hb⟩ := hrel
    obtain ⟨w1, hw1⟩ : ∃ W, W = wr := ⟨_, rfl⟩
    subst hw1
    have O := Lib.hid ho
    have B := Lib.hid hb
    have hLN := HLN.out j hj
    clear ho hb
    obtain ⟨A1, c1, e1⟩ := O.out.opn
    obtain ⟨l1, hl1⟩ : ∃ z, (bs (alL (fs.take j))).length = z := ⟨_, rfl⟩
    have hl1b : l1 ≤ 40000 := by rw [← hl1, bs_length]; exact hLN
    rw [hl1] at e1
    subst e1
    have HL1 := Lib.hid hl1
    clear hl1 hLN
    by_cases hlt : j < fs.length
    · obtain ⟨b, o, a, rfl, hbl, hc, hra⟩ := H.out.at_ hlt
      have hra : Sl cN w a.val (enc fs[j]) := hra
      obtain ⟨Af, cf, hav⟩ := hra.opn
      have hc0 : w1.cell? ⟨b, o + j, none⟩ = some a.val := by
        have := hc 0 a.val rfl
        rw [B.out.cell (p := ⟨b, o + j, none⟩) hbl]
        simpa [fmS, cH] using this
      rw [hav] at hc0 hra
      have hgj := HG.out fs[j] (List.getElem_mem hlt)
      have HTS : Hid (alL (fs.take (j + 1)) = alL (fs.take j) ++ sbT8 fs[j] (enc fs[j]).length) := Lib.hid (by rw [List.take_succ_eq_append_getElem hlt, alL_snoc])
      have HR := Lib.hid hra
      have hfl := hgj.2
      have HOK := Lib.hid hgj.1
      have i1 : (j : Int) < (fs.length : Int) := by omega
      clear hc hra hav hgj
      generalize fs[j] = f at *
      generalize alL (fs.take j) = L at *
      go_wp2
      go_loopw [3, 15] (fun q i wq => ∃ k : Nat, i = .int .i64 (k : Int) ∧ k ≤ (enc f).length ∧ Ow cS 9 w.heap.size wq q (bs (L ++ sbT8 f k)) ∧ Below w.heap.size w wq) (fun _ i _ => (enc f).length - (intOf i).toNat)
      case atStart => exact ⟨0, rfl, Nat.zero_le _, by rw [show sbT8 f 0 = [] from rfl, List.append_nil]; exact O.out, B.out⟩
      case round =>
        obtain ⟨k, rfl, hk, ho, hb⟩ := hrel
        obtain ⟨w2, hw2⟩ : ∃ W, W = wr := ⟨_, rfl⟩
        subst hw2
        obtain ⟨A2, c2, e2⟩ := ho.opn
        obtain ⟨l2, hl2⟩ : ∃ z, (bs (L ++ sbT8 f k)).length = z := ⟨_, rfl⟩
        have hl2b : l2 ≤ 40040 := by
          rw [← hl2, bs_length, List.length_append, sbT8_len]
          have := HL1.out
          rw [bs_length] at this
          omega
        rw [hl2] at e2
        subst e2
        have HL2 := Lib.hid hl2
        have O2 := Lib.hid ho
        have B2 := Lib.hid hb
        clear ho hb hl2
        by_cases hkl : k < (enc f).length
        · obtain ⟨hp1, hp2, hp3⟩ := part_pe f hkl
          have hpos := enc_pos (pt f k)
          have HP := impl_part _ (enc f) k (k + (enc (pt f k)).length) _ (HR.out.below B2.out) (by omega) (by omega) hp2 hp1
          rw [Nat.add_sub_cancel_left, hp3] at HP
          replace HP := Lib.hid HP
          have OKP := Lib.hid (part_ok HOK.out ⟨k, hkl, rfl⟩)
          have HS := Lib.hid (sbT8_succ f k)
          have HE : Hid ((enc (pt f k)).length ≤ 40) := Lib.hid (by omega)
          clear hp1 hp2 hp3 hpos
          go_wp2_with fail
          refine HP.out.mono ?_
          rintro e w3 ⟨u, rfl, hS, rfl⟩
          have HT := Lib.hid (impl_text (pt f k) u _ hS (by have := HE.out; omega) OKP.out)
          clear hS HP
          go_wp2_with fail
          refine HT.out.mono ?_
          rintro e w4 ⟨rfl, m, rfl⟩
          replace O2 := Lib.hid (O2.out.drewN m)
          replace B2 := Lib.hid (below_drewN B2.out m)
          generalize World.drewN _ m = w4 at *
          clear HT
          go_wp2_with (at_builtin; refine stopHere ?_)
          refine goHere ?_
          refine ap_one (K := cS) w4 ty_str rfl _ _ rfl (B := w.heap.size) (v := .slice A2 l2 c2) (xs := bs (L ++ sbT8 f k)) rfl O2.out (txt (pt f k)) rfl rfl (by rw [HL2.out]; omega) B2.out.size ?_
          intro v3 w5 ho hg hb1 hat
          have ho2 : Ow cS 9 w.heap.size w5 v3 (bs (L ++ sbT8 f (k + 1))) := by rw [HS.out, ← List.append_assoc, bs_app]; exact ho
          replace O2 := Lib.hid ho2
          replace B2 := Lib.hid (B2.out.trans hb1)
          clear ho ho2 hg hb1 hat HS
          go_wp2
          go_roundw
          case rel => exact ⟨k + 1, by go_num, by omega, O2.out, B2.out⟩
          case measure => simp [intOf]; omega
        · obtain rfl : k = (enc f).length := by omega
          go_wp2
          go_roundw
          case rel => exact ⟨j + 1, by go_num, by omega, by rw [HTS.out]; exact O2.out, B2.out⟩
          case measure => simp [intOf]; omega
    · obtain rfl : j = fs.length := by omega
      rw [HTA.out] at O HL1
      have HS := Lib.hid (slices_SortS _ (alL fs) w.heap.size w1 O.out.l8 (by have := HL1.out; rw [bs_length] at this; omega))
      clear hlt hj
      go_wp2_with fail
      refine HS.out.mono ?_
      rintro e w2 ⟨rfl, ho, hb⟩
      have hlen : ((alL fs).mergeSort fun x y => decide (x ≤ y)).length = (alL fs).length := List.length_mergeSort _
      have HK := Lib.hid (slices_CompactS _ _ w.heap.size w2 ho (by rw [hlen]; have := HL1.out; rw [bs_length] at this; omega))
      have E : Hid (Lib.compactUpTo ((alL fs).mergeSort fun x y => decide (x ≤ y)).toArray ((alL fs).mergeSort fun x y => decide (x ≤ y)).length = alT fs) := Lib.hid (by rw [hlen]; exact sbI8_sort _)
      rw [E.out] at HK
      replace B := Lib.hid (B.out.trans hb)
      clear ho hb hlen HS O E
      go_wp2_with fail
      refine HK.out.mono ?_
      rintro e w3 ⟨u, rfl, ho, hb⟩
      have O := Lib.hid ho.s8
      replace B := Lib.hid (B.out.trans hb)
      clear ho hb HK
      go_wp2
      go_ret
      exact ⟨_, rfl, O.out, B.out⟩
/-- an elementary part -/
def cE : Cod (ByteArray × Hd) := ⟨2, fun x => [.string x.1, x.2.val], fun _ => rfl, by decide, fun _ u hu => by simp at hu; rcases hu with rfl | rfl <;> rfl⟩
theorem ty_elem : Ty Tryz.prog 88 147 (.agg #[.string ⟨#[]⟩, .slice none 0 0]) 2 40 := Ty.mk' Tryz.underlying88 (by kernel_rfl) rfl (by decide)
def elS : RowS (ByteArray × Hd) Fm := ⟨cE, 147, fun a => a.2.val.ownBlock, fun w a f => a.1 = txt f ∧ Sl cN w a.2.val (enc f), fun h hs hk => ⟨h.1, h.2.keptAt hs hk⟩⟩
/-- the kind of a formula's first node -/
def kdF : Fm → Int | .var _ => 0 | .fls => 1 | .bin k _ _ => k.i | .un k _ => k.i
theorem kdF_enc (f : Fm) : ((enc f)[0]'(enc_pos f)).1 = kdF f := by cases f <;> simp [enc, kdF]
theorem kdF_el (f : Fm) : isel f = ((kdF f == 0) || ((kdF f == 5) || (kdF f == 6))) := by
  cases f with
  | var s => rfl
  | fls => rfl
  | bin k a b => cases k <;> rfl
  | un k a => cases k <;> rfl
theorem impl_isModalE (k : Int) (w : World) :
    Calls Tryz.prog 139 #[.int .i64 k] w fun e w' => e = .returned (.bool ((k == 5) || (k == 6))) ∧ w = w' := by
  by_cases h5 : k = 5
  · subst h5
    go_enter Tryz.func139, Tryz.ntmps139
    go_wp2
    go_ret
    exact ⟨rfl, rfl⟩
  · have h5' : (k == 5) = false := by simpa using h5
    clear h5
    go_enter Tryz.func139, Tryz.ntmps139
    go_wp2
    go_ret
    exact ⟨by rw [h5']; rfl, rfl⟩
set_option maxRecDepth 100000 in
theorem impl_elementaryParts (fs gs : List Fm) (lv rv : Value) (w : World) (hl : Sl cS w lv (fs.map txt)) (hr : Sl cS w rv (gs.map txt)) (hg : gdF (fs ++ gs)) (hn : fs.length + gs.length ≤ 1000) :
    Calls Tryz.prog 64 #[.agg #[lv, rv]] w fun e w' => ∃ u, e = .returned u ∧ Grw elS w.heap.size w' u (elF (fs ++ gs)) ∧ Below w.heap.size w w' := by
  obtain ⟨A0, c0, rfl⟩ := hl.opn
  obtain ⟨A1, c1, rfl⟩ := hr.opn
  have HL := Lib.hid hl
  have HR := Lib.hid hr
  clear hl hr
  have LL : (fs.map txt).length = fs.length := List.length_map ..
  have LR : (gs.map txt).length = gs.length := List.length_map ..
  rw [LL] at HL ⊢
  rw [LR] at HR ⊢
  clear LL LR
  have HF1 := Lib.hid (fun lv rv W h1 h2 => impl_formulasSeq fs gs lv rv W h1 h2 hn)
  have HF2 := Lib.hid (fun v W h1 => impl_formulasOf (fs ++ gs) v W h1 hg (by rw [List.length_append]; exact hn))
  have HF3 := Lib.hid (fun T v W h1 => impl_subformulasL (fs ++ gs) T v W h1 hg (by rw [List.length_append]; exact hn))
  have HPT : Hid (∀ t ∈ alT (fs ++ gs), ∃ g : Fm, g.ok = true ∧ (enc g).length ≤ 40 ∧ t = t8 (txt g)) := Lib.hid fun t ht => by
    obtain ⟨f, hf, g, hp, e⟩ := alT_mem.1 ht
    exact ⟨g, part_ok (hg f hf).1 hp, Nat.le_trans (part_len hp) (hg f hf).2, e⟩
  have HTL : Hid ((alT (fs ++ gs)).length ≤ 40000) := Lib.hid (by
    have := alT_len (fs ++ gs) fun f hf => (hg f hf).2
    rw [List.length_append] at this
    omega)
  have HEF : Hid (elT (alT (fs ++ gs)) = elF (fs ++ gs)) := Lib.hid rfl
  clear hg hn
  go_enter Tryz.func64, Tryz.ntmps64
  go_upto_region 1 with fail
  have hb := below_alloc' w (.cells #[.slice A0 fs.length c0, .slice A1 gs.length c1] 41)
  have K1 := Lib.hid (Blk.new w 41 #[.slice A0 fs.length c0, .slice A1 gs.length c1])
  have HB := Lib.hid hb
  replace HL := Lib.hid (HL.out.below hb)
  replace HR := Lib.hid (HR.out.below hb)
  clear hb
  generalize World.alloc w _ = w1 at *
  have k0 := K1.out.cell 0
  have k1 := K1.out.cell 1
  have k2 := K1.out.lt
  go_wp2_with fail
  refine (HF1.out _ _ _ HL.out HR.out).mono ?_
  rintro e w2 ⟨u2, rfl, ho, hb⟩
  have O2 := Lib.hid ho
  have B2 := Lib.hid (bthen HB.out hb)
  clear ho hb k0 k1 k2
  go_wp2_with fail
  refine (HF2.out _ _ O2.out.sl).mono ?_
  rintro e w3 ⟨u3, rfl, ho, hb⟩
  have O3 := Lib.hid (ho.rd (T := fun _ => False) fun _ _ _ h => h)
  have B3 := Lib.hid (bthen B2.out hb)
  clear ho hb
  go_wp2_with fail
  refine (HF3.out _ _ _ O3.out).mono ?_
  rintro e w4 ⟨u4, rfl, ho, hb⟩
  have B4 := Lib.hid (bthen B3.out hb)
  obtain ⟨A4, c4, rfl⟩ := ho.opn
  rw [bs_length] at ho ⊢
  have O4 := Lib.hid ho
  clear ho hb
  generalize alT (fs ++ gs) = ts at *
  obtain ⟨n, hn⟩ : ∃ n, ts.length = n := ⟨_, rfl⟩
  rw [hn] at O4 HTL ⊢
  have HN := Lib.hid hn
  have htl := HTL.out
  clear hn
  go_wp2
  go_loopw [3, 12] (fun ov i wr => ∃ j : Nat, j ≤ n ∧ i = .int .i64 j ∧ Grw elS w4.heap.size wr ov (elT (ts.take j)) ∧ Below w4.heap.size w4 wr) (fun _ i _ => n - (intOf i).toNat)
  case atStart => exact ⟨0, Nat.zero_le _, rfl, Grw.nil _ _, Below.refl _ _⟩
  case round =>
    obtain ⟨j, hj, rfl, ho, hb⟩ := hrel
    obtain ⟨w5, hw5⟩ : ∃ W, W = wr := ⟨_, rfl⟩
    subst hw5
    obtain ⟨A5, c5, e5⟩ := ho.opn
    obtain ⟨l5, hl5⟩ : ∃ z, (elT (ts.take j)).length = z := ⟨_, rfl⟩
    have hl5b : l5 ≤ 40000 := by
      rw [← hl5]
      have := elT_len (ts.take j)
      rw [List.length_take] at this
      omega
    rw [hl5] at e5
    subst e5
    have HL5 := Lib.hid hl5
    have O5 := Lib.hid ho
    have B5 := Lib.hid hb
    clear ho hl5
    by_cases hlt : j < n
    · have hltt : j < ts.length := by rw [HN.out]; exact hlt
      obtain ⟨g, hgo, hgl, hge⟩ := HPT.out ts[j] (List.getElem_mem hltt)
      obtain ⟨b, o, rfl, hbl, hc0⟩ := (O4.out.sl.below hb).atS (k := j) (by rw [bs_length]; exact hltt)
      rw [bs_get _ _ (by rw [bs_length]; exact hltt)] at hc0
      have hst : (⟨⟨ts[j]⟩⟩ : ByteArray) = txt g := by rw [hge]; rfl
      rw [hst] at hc0
      have HTS : Hid (elT (ts.take (j + 1)) = if isel g = true then elT (ts.take j) ++ [g] else elT (ts.take j)) := Lib.hid (by
        rw [List.take_succ_eq_append_getElem hltt, hge]; exact elT_snoc _ hgo)
      have HP := Lib.hid (fun W => impl_parsedG g W hgo hgl)
      have i1 : (j : Int) < (n : Int) := by omega
      have HKE := Lib.hid (kdF_el g)
      clear hge hst hb
      go_wp2_with fail
      refine (HP.out _).mono ?_
      rintro e w6 ⟨A6, c6, rfl, ho6, hb6⟩
      obtain ⟨b6, o6, rfl, hbl6, hc6⟩ := ho6.sl.cell (k := 0) (enc_pos g)
      have hk0 : w6.cell? ⟨b6, o6, none⟩ = some (.int .i64 (kdF g)) := by
        have := hc6 0 (.int .i64 ((enc g)[0]'(enc_pos g)).1) rfl
        rw [kdF_enc] at this
        simpa using this
      have hpos := enc_pos g
      have O6 := Lib.hid ho6
      have B6 := Lib.hid hb6
      have O56 := O5.out.below hb6
      obtain ⟨hs, g1, g2, g3⟩ := O56.push (S := elS) (a := (txt g, ⟨some ⟨b6, o6, none⟩, (enc g).length, c6⟩)) (b := g) ⟨rfl, ho6.sl⟩ (fun k e => by
        have := ho6.block k e
        refine ⟨by have := B5.out.size; omega, this.2, fun e2 => ?_⟩
        have := (O5.out.blk k e2).2
        omega)
      have G1 := Lib.hid g1
      have G2 : Hid (hs.length = l5) := Lib.hid (by rw [g2, HL5.out])
      have G3 := Lib.hid g3
      have G0 := Lib.hid O56
      have B56 := Lib.hid (B5.out.trans (hb6.mono B5.out.size))
      clear hc0 hbl ho6 hb6 O56 g1 g2 g3 hc6
      by_cases hk : kdF g = 0
      · rw [hk] at hk0 HKE
        have hse : isel g = true := by rw [HKE.out]; rfl
        rw [if_pos hse] at HTS
        clear hse hk
        go_wp2_with (at_builtin; refine stopHere ?_)
        refine goHere ?_
        refine ap_one (K := cE) _ ty_elem rfl _ _ rfl (B := w4.heap.size) (v := .slice A5 l5 c5) (xs := hs) rfl G1.out (txt g, ⟨some ⟨b6, o6, none⟩, (enc g).length, c6⟩) rfl rfl (by rw [G2.out]; omega) B56.out.size ?_
        intro v7 w7 ho hg1 hb1 hat
        have O7 := Lib.hid (G3.out w7 v7 _ (World.grownBy_alloc _ _ none) (by simp) ho hg1 hat)
        have B7 := Lib.hid (B56.out.trans hb1)
        clear ho hg1 hb1 hat
        go_wp2
        go_roundw
        case rel => exact ⟨j + 1, by omega, by go_num, by rw [HTS.out]; exact O7.out, B7.out⟩
        case measure => simp [intOf]; omega
      · have hk' : (kdF g == 0) = false := by simpa using hk
        rw [hk', Bool.false_or] at HKE
        have HM := Lib.hid (fun W => impl_isModalE (kdF g) W)
        rw [← HKE.out] at HM
        clear hk
        generalize kdF g = kk at *
        go_wp2_with fail
        refine (HM.out _).mono ?_
        rintro e w8 ⟨rfl, rfl⟩
        cases hs' : isel g
        · rw [if_neg (by rw [hs']; decide)] at HTS
          clear hs' hk0
          go_wp2
          go_roundw
          case rel => exact ⟨j + 1, by omega, by go_num, by rw [HTS.out]; exact G0.out, B56.out⟩
          case measure => simp [intOf]; omega
        · rw [if_pos hs'] at HTS
          clear hs' hk0
          go_wp2_with (at_builtin; refine stopHere ?_)
          refine goHere ?_
          refine ap_one (K := cE) _ ty_elem rfl _ _ rfl (B := w4.heap.size) (v := .slice A5 l5 c5) (xs := hs) rfl G1.out (txt g, ⟨some ⟨b6, o6, none⟩, (enc g).length, c6⟩) rfl rfl (by rw [G2.out]; omega) B56.out.size ?_
          intro v7 w7 ho hg1 hb1 hat
          have O7 := Lib.hid (G3.out w7 v7 _ (World.grownBy_alloc _ _ none) (by simp) ho hg1 hat)
          have B7 := Lib.hid (B56.out.trans hb1)
          clear ho hg1 hb1 hat
          go_wp2
          go_roundw
          case rel => exact ⟨j + 1, by omega, by go_num, by rw [HTS.out]; exact O7.out, B7.out⟩
          case measure => simp [intOf]; omega
    · obtain rfl : j = n := by omega
      have HTA : Hid (ts.take j = ts) := Lib.hid (by rw [← HN.out]; exact List.take_length)
      rw [HTA.out, HEF.out] at O5
      clear hb
      go_wp2
      go_ret
      exact ⟨_, rfl, O5.out.mono B4.out.size, bthen B4.out B5.out⟩
/- Contracts of chapter 12, of the program: the value of a formula in a type. -/
theorem slices_IndexFunc_elem (v : Value) (P : List Fm) (T : Nat → Prop) (k : FuncId) (cap : Array Value) (p : Nat → Bool) (w : World) (h : RdS elS T w v P) (hl : P.length ≤ 1073741824)
    (hk : ∀ (args : Array Value) (w : World), (callFunc k args).run Tryz.prog w = .ok (.enter k args) w)
    (hf : ∀ w', Below w.heap.size w w' → ∀ (s : ByteArray) (A : Option Addr) (n c i : Nat) (hi : i < P.length), Sl cN w' (.slice A n c) (enc P[i]) → Calls Tryz.prog k (#[.agg #[.string s, .slice A n c]] ++ cap) w' fun e w'' => e = .returned (.bool (p i)) ∧ Below w'.heap.size w' w'') :
    Calls Tryz.prog 252 #[v, .func (.func k) #[] cap] w fun e w' => e = .returned (.int .i64 (fidx p P.length)) ∧ Below w.heap.size w w' := by
  obtain ⟨A, c, rfl⟩ := h.opn
  have HF := Lib.hid hf; clear hf
  have H := Lib.hid h; clear h
  go_enter Tryz.func252, Tryz.ntmps252
  go_wp2
  go_loopw [8] (fun i wr => ∃ j : Nat, j ≤ P.length ∧ i = .int .i64 j ∧ (∀ i < j, p i = false) ∧ Below w.heap.size w wr) (fun i _ => P.length - (intOf i).toNat)
  case atStart => exact ⟨0, Nat.zero_le _, rfl, fun i hi => by omega, Below.refl _ _⟩
  case round =>
    obtain ⟨j, hj, rfl, hh, hb⟩ := hrel
    have Hh := Lib.hid hh; clear hh
    by_cases hlt : j < P.length
    · obtain ⟨b, o, a, rfl, hbl, hc, hra⟩ := (H.out.below hb).at_ hlt
      obtain ⟨s, ⟨Ai, ni, ci⟩⟩ := a
      have hra : s = txt P[j] ∧ Sl cN wr (.slice Ai ni ci) (enc P[j]) := hra
      have hc0 : wr.cell? ⟨b, o + j * 2, none⟩ = some (.string s) := hc 0 _ rfl
      have hc1 : wr.cell? ⟨b, o + j * 2 + 1, none⟩ = some (.slice Ai ni ci) := hc 1 _ rfl
      have HS := Lib.hid hra.2; clear hra hc
      go_wp2_with fail
      refine (HF.out wr hb s Ai ni ci j hlt HS.out).mono ?_
      rintro e w1 ⟨rfl, hb1⟩
      have HB : Hid (Below w.heap.size w w1) := Lib.hid (hb.trans (hb1.mono hb.size))
      clear hb1 hb hc0 hc1
      by_cases hp : p j = true
      · have HE := Lib.hid (fidx_some hlt Hh.out hp)
        rw [hp]
        have HP := Lib.hid hp; clear hp
        go_wp2
        go_ret
        exact ⟨by rw [HE.out]; rfl, HB.out⟩
      · rw [Bool.not_eq_true] at hp
        rw [hp]
        have HP := Lib.hid hp; clear hp
        go_wp2
        go_roundw
        case rel => exact ⟨j + 1, by omega, by go_num, fun i hi => (Nat.lt_or_ge i j).elim (fun h => Hh.out i h) (fun h => (show i = j by omega) ▸ HP.out), HB.out⟩
        case measure => simp [intOf]; omega
    · have HE : Hid (fidx p P.length = -1) := Lib.hid (fidx_none fun i hi => Hh.out i (by omega))
      have HB := Lib.hid hb; clear hb
      go_wp2
      go_ret
      exact ⟨by rw [HE.out]; rfl, HB.out⟩
theorem en_valueIn_1 : ∀ (args : Array Value) (w : World), (callFunc 253 args).run Tryz.prog w = .ok (.enter 253 args) w := enters Tryz.func253 (by kernel_rfl) (by kernel_rfl)
theorem impl_valueIn_1 (e f : Fm) (s : ByteArray) (A A' : Option Addr) (n c n' c' B : Nat) (w : World) (hc : w.cell? ⟨B, 0, none⟩ = some (.slice A' n' c')) (hB : B < w.heap.size) (he : Sl cN w (.slice A n c) (enc e)) (hf : Sl cN w (.slice A' n' c') (enc f)) (hl : (enc e).length ≤ 1000) (hl2 : (enc f).length ≤ 1000) :
    Calls Tryz.prog 253 #[.agg #[.string s, .slice A n c], .pointer (some ⟨B, 0, none⟩)] w fun x w' => x = .returned (.bool (decide (enc e = enc f))) ∧ Below w.heap.size w w' := by
  have hb := below_alloc' w (.cells #[.string s, .slice A n c] 147)
  have K1 := Lib.hid (Blk.new w 147 #[.string s, .slice A n c])
  have HS := Lib.hid (impl_same _ _ (enc e) (enc f) _ (he.below hb) (hf.below hb) (by omega) (by omega))
  have hc' := (hb.cell (p := ⟨B, 0, none⟩) hB).trans hc
  have hB' := Nat.lt_of_lt_of_le hB hb.size
  have HB := Lib.hid hb
  clear hb he hf hc hB
  generalize decide (enc e = enc f) = r at *
  go_enter Tryz.func253, Tryz.ntmps253
  go_upto_region 1 with fail
  generalize World.alloc w _ = w1 at *
  have k0 := K1.out.cell 0
  have k1 := K1.out.cell 1
  have k2 := K1.out.lt
  go_wp2_with fail
  refine HS.out.mono ?_
  rintro x w2 ⟨rfl, hb⟩
  have HB2 := Lib.hid (bthen HB.out hb)
  clear hb k0 k1 k2 hc' hB'
  go_wp2
  go_ret
  exact ⟨rfl, HB2.out⟩
/-- where a types value keeps the elementary parts -/
def PtR (P : List Fm) (p : Nat) (W : World) : Prop := ∃ A c, p < W.heap.size ∧ W.cell? ⟨p, 1, none⟩ = some (.slice A P.length c) ∧ RdS elS (fun _ => False) W (.slice A P.length c) P
theorem PtR.below {P : List Fm} {p : Nat} {W W' : World} (h : PtR P p W) (hb : Below W.heap.size W W') : PtR P p W' := by
  obtain ⟨A, c, h1, h2, h3⟩ := h
  exact ⟨A, c, Nat.lt_of_lt_of_le h1 hb.size, (hb.cell (p := ⟨p, 1, none⟩) h1).trans h2, h3.below hb⟩
/-- what valueIn gives -/
def VIn (P : List Fm) (t p : Nat) (f : Fm) : Prop := f.ok = true → (enc f).length ≤ 40 → inP P f → ∀ (v : Value) (W : World), PtR P p W → Sl cN W v (enc f) →
  Calls Tryz.prog 214 #[.pointer (some ⟨p, 0, none⟩), v, .int .i64 (t : Int)] W fun e w' => e = .returned (.bool (vt P t f)) ∧ Below W.heap.size W w'
theorem fidx_ix {P : List Fm} {g : Fm} (h : g ∈ P) : fidx (fun i => decide (enc (P.getD i .fls) = enc g)) P.length = (ixT P g : Int) := by
  obtain ⟨h1, h2⟩ := ixT_mem h
  refine fidx_some h1 (fun i hi => ?_) (by rw [h2]; simp)
  have h3 : i < P.length := by omega
  have := List.not_of_lt_findIdx (p := fun e => decide (enc e = enc g)) (xs := P) hi
  rw [List.getD_eq_getElem?_getD, List.getElem?_eq_getElem h3, Option.getD_some]
  simpa using this
set_option maxRecDepth 100000 in
/-- at an elementary formula -/
theorem impl_valueIn_el (P : List Fm) (t p : Nat) (f : Fm) (hP : P.length ≤ 20) (ht : t < 4294967296) (he : isel f = true) (hvt : vt P t f = t.testBit (ixT P f)) (hm : f ∈ P) (hPl : ∀ g ∈ P, (enc g).length ≤ 40) (hfl : (enc f).length ≤ 40) (v : Value) (W : World) (hp : PtR P p W) (h : Sl cN W v (enc f)) :
    Calls Tryz.prog 214 #[.pointer (some ⟨p, 0, none⟩), v, .int .i64 (t : Int)] W fun e w' => e = .returned (.bool (vt P t f)) ∧ Below W.heap.size W w' := by
  obtain ⟨A, c, rfl⟩ := h.opn
  rw [hvt]
  have hix := (ixT_mem hm).1
  have HF := Lib.hid (fidx_ix hm)
  have hb := below_alloc' W (.cells #[.slice A (enc f).length c] 26)
  have K1 := Lib.hid (Blk.new W 26 #[.slice A (enc f).length c])
  have H1 := h.below hb
  obtain ⟨Ap, cp, q1, q2, q3⟩ := hp.below hb
  have HX := Lib.hid (slices_IndexFunc_elem _ P _ 253 #[.pointer (some ⟨W.heap.size, 0, none⟩)] (fun i => decide (enc (P.getD i .fls) = enc f)) _ q3 (by omega) en_valueIn_1 (fun w' hb' s A' n c' i hi hS => by
    have e : P.getD i .fls = P[i] := by rw [List.getD_eq_getElem?_getD, List.getElem?_eq_getElem hi]; rfl
    rw [e]
    exact impl_valueIn_1 P[i] f s A' A n c' (enc f).length c W.heap.size w' ((hb'.cell (p := ⟨W.heap.size, 0, none⟩) K1.out.lt).trans (K1.out.cell 0)) (Nat.lt_of_lt_of_le K1.out.lt hb'.size) hS (H1.below hb') (by have := hPl P[i] (List.getElem_mem hi); omega) (by omega)))
  rw [HF.out] at HX
  have HH := Lib.hid (fun w => impl_has t (ixT P f) w (by omega) (by omega))
  obtain ⟨b, o, rfl, hbl, hc⟩ := H1.cell (k := 0) (enc_pos f)
  have hk0 : (World.alloc W (.cells #[.slice (some ⟨b, o, none⟩) (enc f).length c] 26)).cell? ⟨b, o, none⟩ = some (.int .i64 (kdF f)) := by
    have := hc 0 (.int .i64 ((enc f)[0]'(enc_pos f)).1) rfl
    rw [kdF_enc] at this
    simpa using this
  have hkd : kdF f = 0 ∨ kdF f = 5 ∨ kdF f = 6 := by
    rw [kdF_el] at he
    simpa using he
  have hpos := enc_pos f
  have HB := Lib.hid hb
  clear hb h hp H1 he hc hvt hm hPl q3
  generalize ixT P f = ix0 at *
  go_enter Tryz.func214, Tryz.ntmps214
  go_upto_region 1 with fail
  generalize World.alloc W _ = w1 at *
  have k0 := K1.out.cell 0
  have k2 := K1.out.lt
  rcases hkd with hkd | hkd | hkd
  all_goals
    rw [hkd] at hk0
    clear hkd
    go_wp2_with fail
    refine HX.out.mono ?_
    rintro e w2 ⟨rfl, hb⟩
    have HB2 := Lib.hid (bthen HB.out hb)
    clear hb k0 k2 hk0 hbl q1 q2
    go_wp2_with fail
    refine (HH.out _).mono ?_
    rintro e w3 ⟨rfl, rfl⟩
    go_wp2
    go_ret
    exact ⟨rfl, HB2.out⟩
set_option maxRecDepth 100000 in
theorem impl_valueIn_fls (P : List Fm) (t p : Nat) : VIn P t p .fls := by
  intro _ _ _ v W hp h
  obtain ⟨A, c, rfl⟩ := h.opn
  have hb := below_alloc' W (.cells #[.slice A (enc .fls).length c] 26)
  have K1 := Lib.hid (Blk.new W 26 #[.slice A (enc .fls).length c])
  have H1 := h.below hb
  obtain ⟨b, o, rfl, hbl, hc⟩ := H1.cell (k := 0) (enc_pos .fls)
  have hk0 : (World.alloc W (.cells #[.slice (some ⟨b, o, none⟩) (enc .fls).length c] 26)).cell? ⟨b, o, none⟩ = some (.int .i64 1) := by
    have := hc 0 (.int .i64 1) rfl
    simpa using this
  have HB := Lib.hid hb
  clear hb h hp H1 hc
  go_enter Tryz.func214, Tryz.ntmps214
  go_upto_region 1 with fail
  generalize World.alloc W _ = w1 at *
  have k0 := K1.out.cell 0
  have k2 := K1.out.lt
  have hpos := enc_pos .fls
  go_wp2
  go_ret
  exact ⟨rfl, HB.out⟩
def bvl : BK → Bool → Bool → Bool | .and, a, b => a && b | .or, a, b => a || b | .imp, a, b => !a || b
set_option maxRecDepth 100000 in
set_option maxHeartbeats 1000000 in
theorem impl_valueIn_bin (P : List Fm) (t p : Nat) (k : BK) (f g : Fm) (ihf : VIn P t p f) (ihg : VIn P t p g) : VIn P t p (.bin k f g) := by
  intro hok hl hin v W hp h
  obtain ⟨A, c, rfl⟩ := h.opn
  simp only [Fm.ok, Bool.and_eq_true] at hok
  have hlen : (enc (.bin k f g)).length = 1 + (enc f).length + (enc g).length := by simp [enc]; omega
  have HF := Lib.hid (ihf hok.1 (by omega) hin.1)
  have HG := Lib.hid (ihg hok.2 (by omega) hin.2)
  have HV : Hid (vt P t (.bin k f g) = bvl k (vt P t f) (vt P t g)) := Lib.hid (by cases k <;> rfl)
  have hb := below_alloc' W (.cells #[.slice A (enc (.bin k f g)).length c] 26)
  have K1 := Lib.hid (Blk.new W 26 #[.slice A (enc (.bin k f g)).length c])
  have H1 := h.below hb
  have HX := Lib.hid H1
  have HP := Lib.hid (hp.below hb)
  have H1st := Lib.hid (fun W v (hv : Sl cN W v (enc (.bin k f g))) => impl_first v (k.i, 0) f (enc g) W hv (by show (enc (.bin k f g)).length ≤ _; omega))
  have H2nd := Lib.hid (fun W v (hv : Sl cN W v (enc (.bin k f g))) => impl_second v (k.i, 0) f g [] W (by rw [List.append_nil]; exact hv) (by rw [List.append_nil]; show (enc (.bin k f g)).length ≤ _; omega))
  obtain ⟨b, o, rfl, hbl, hc⟩ := H1.cell (k := 0) (enc_pos _)
  have hk0 : (World.alloc W (.cells #[.slice (some ⟨b, o, none⟩) (enc (.bin k f g)).length c] 26)).cell? ⟨b, o, none⟩ = some (.int .i64 k.i) := by
    have := hc 0 (.int .i64 k.i) rfl
    simpa using this
  have HB := Lib.hid hb
  have hpos : 0 < (enc (.bin k f g)).length := enc_pos _
  clear hb h hp H1 hc hlen hok hin
  generalize vt P t f = r1 at *
  generalize vt P t g = r2 at *
  generalize vt P t (.bin k f g) = r at *
  generalize (enc (.bin k f g)).length = n at *
  go_enter Tryz.func214, Tryz.ntmps214
  go_upto_region 1 with fail
  generalize World.alloc W _ = w1 at *
  have k0 := K1.out.cell 0
  have k2 := K1.out.lt
  cases k
  all_goals
    simp only [BK.i] at hk0
    go_wp2_with fail
    refine (H1st.out _ _ HX.out).mono ?_
    rintro e w2 ⟨u2, rfl, hs2, rfl⟩
    have S2 := Lib.hid hs2
    clear hs2 hk0
    go_wp2_with fail
    refine (HF.out _ _ HP.out S2.out).mono ?_
    rintro e w3 ⟨rfl, hb3⟩
    have K3 := Lib.hid (K1.out.below hb3 K1.out.lt)
    have HX3 := Lib.hid (HX.out.below hb3)
    have HP3 := Lib.hid (HP.out.below hb3)
    have HB3 := Lib.hid (bthen HB.out hb3)
    clear hb3 k0 k2 hbl
    have k0 := K3.out.cell 0
    have k2 := K3.out.lt
    cases r1
  all_goals first
    | (go_wp2
       go_ret
       exact ⟨by rw [HV.out]; rfl, HB3.out⟩)
    | (go_wp2_with fail
       refine (H2nd.out _ _ HX3.out).mono ?_
       rintro e w4 ⟨u4, rfl, hs4, rfl⟩
       have S4 := Lib.hid hs4
       clear hs4
       go_wp2_with fail
       refine (HG.out _ _ HP3.out S4.out).mono ?_
       rintro e w5 ⟨rfl, hb5⟩
       have HB5 := Lib.hid (bthen HB3.out hb5)
       clear hb5 k0 k2
       go_wp2
       go_ret
       exact ⟨by rw [HV.out]; cases r2 <;> rfl, HB5.out⟩)
theorem impl_valueIn (P : List Fm) (t p : Nat) (hP : P.length ≤ 20) (ht : t < 4294967296) (hPl : ∀ g ∈ P, (enc g).length ≤ 40) : ∀ f : Fm, VIn P t p f := by
  intro f
  induction f with
  | var s => exact fun _ hl hin v W hp h => impl_valueIn_el P t p _ hP ht rfl rfl hin hPl hl v W hp h
  | fls => exact impl_valueIn_fls P t p
  | bin k a b iha ihb => exact impl_valueIn_bin P t p k a b iha ihb
  | un k a ih => exact fun _ hl hin v W hp h => impl_valueIn_el P t p _ hP ht rfl rfl hin.1 hPl hl v W hp h
/- Contracts of chapter 12, of the program: what types demand, what they see, which witnesses they have. -/
/-- a need: an index, a kind, the header of a row of flags -/
def cD : Cod (Int × Int × Hd) := ⟨3, fun x => [.int .i64 x.1, .int .i64 x.2.1, x.2.2.val], fun _ => rfl, by decide, fun _ u hu => by simp at hu; rcases hu with rfl | rfl | rfl <;> rfl⟩
def inn : Fm → Fm | .un _ a => a | f => f
/-- the values of what stands below a modality, in all types -/
def inr (P : List Fm) (i : Nat) : List Bool := (List.range (2 ^ P.length)).map fun t => vt P t (inn (P.getD i .fls))
theorem inr_length (P : List Fm) (i : Nat) : (inr P i).length = 2 ^ P.length := by simp [inr]
theorem inr_get (P : List Fm) (i t : Nat) (h : t < (inr P i).length) : (inr P i)[t] = vt P t (inn (P.getD i .fls)) := by simp [inr]
/-- the places of the parts with a modality, among the first k -/
def mdK (P : List Fm) (k : Nat) : List Nat := (List.range k).filter (ism P)
def mdx (P : List Fm) : List Nat := mdK P P.length
theorem mdK_succ (P : List Fm) (k : Nat) : mdK P (k + 1) = if ism P k = true then mdK P k ++ [k] else mdK P k := by
  unfold mdK
  rw [List.range_succ, List.filter_append]
  by_cases h : ism P k = true
  · rw [if_pos h, List.filter_cons_of_pos h]; rfl
  · rw [if_neg h, List.filter_cons_of_neg h]; simp
theorem mdx_mem {P : List Fm} {i : Nat} : i ∈ mdx P ↔ i < P.length ∧ ism P i = true := by
  unfold mdx mdK
  rw [List.mem_filter, List.mem_range]
def ndS (P : List Fm) : RowS (Int × Int × Hd) Nat := ⟨cD, 194, fun a => a.2.2.val.ownBlock, fun w a i => a.1 = (i : Int) ∧ a.2.1 = kdF (P.getD i .fls) ∧ Sl cB w a.2.2.val (inr P i), fun h hs hk => ⟨h.1, h.2.1, h.2.2.keptAt hs hk⟩⟩
theorem dmd_eq {P : List Fm} {t i : Nat} (h : ism P i = true) : dmd P t i = (t.testBit i == (kdF (P.getD i .fls) == 5)) := by
  obtain ⟨k, a, e⟩ := ism_at h
  unfold dmd
  rw [e]
  cases k <;> rfl
theorem mts_eq {P : List Fm} {t i : Nat} (h : ism P i = true) : mts P t i = (vt P t (inn (P.getD i .fls)) == (kdF (P.getD i .fls) == 5)) := by
  obtain ⟨k, a, e⟩ := ism_at h
  unfold mts
  rw [e]
  cases k <;> rfl
theorem impl_demands (i t : Nat) (k : Int) (u : Value) (w : World) (ht : t < 4294967296) (hi : i ≤ 20) :
    Calls Tryz.prog 257 #[.agg #[.int .i64 (i : Int), .int .i64 k, u], .int .i64 (t : Int)] w fun e w' => e = .returned (.bool (t.testBit i == (k == 5))) ∧ Below w.heap.size w w' := by
  have hb := below_alloc' w (.cells #[.int .i64 (i : Int), .int .i64 k, u] 194)
  have K1 := Lib.hid (Blk.new w 194 #[.int .i64 (i : Int), .int .i64 k, u])
  have HB := Lib.hid hb
  have HH := Lib.hid (fun w => impl_has t i w (by omega) (by omega))
  clear hb
  generalize t.testBit i = r at *
  go_enter Tryz.func257, Tryz.ntmps257
  go_upto_region 1 with fail
  generalize World.alloc w _ = w1 at *
  have k0 := K1.out.cell 0
  have k1 := K1.out.cell 1
  have k2 := K1.out.lt
  have HQ : Hid (∀ n, Calls Tryz.prog 66 #[.int .i64 (t : Int), .int .i64 (i : Int)] (w1.drewN n) fun e w' => e = .returned (.bool r) ∧ ∃ m, w' = w1.drewN m) := Lib.hid fun n => (HH.out _).mono fun e w' hh => ⟨hh.1, n, hh.2.symm⟩
  go_quiet ((go_at_call 66; exact HQ.out _))
  go_wp2
  go_ret
  exact ⟨rfl, below_drewN HB.out _⟩
theorem Sl.atB12 {w : World} {A : Option Addr} {n c : Nat} {xs : List Bool} (h : Sl cB w (.slice A n c) xs) {k : Nat} (hk : k < xs.length) :
    ∃ b o, A = some ⟨b, o, none⟩ ∧ b < w.heap.size ∧ w.cell? ⟨b, o + k, none⟩ = some (.bool xs[k]) := by
  obtain ⟨b, o, hA, hb, hc⟩ := h.cell hk
  have := hc 0 (.bool xs[k]) rfl
  exact ⟨b, o, hA, hb, by simpa [cB] using this⟩
theorem impl_meets (i k : Int) (t : Nat) (u : Value) (xs : List Bool) (w : World) (h : Sl cB w u xs) (ht : t < xs.length) :
    Calls Tryz.prog 258 #[.agg #[.int .i64 i, .int .i64 k, u], .int .i64 (t : Int)] w fun e w' => e = .returned (.bool (xs[t] == (k == 5))) ∧ Below w.heap.size w w' := by
  obtain ⟨A, c, rfl⟩ := h.opn
  have hb := below_alloc' w (.cells #[.int .i64 i, .int .i64 k, .slice A xs.length c] 194)
  have K1 := Lib.hid (Blk.new w 194 #[.int .i64 i, .int .i64 k, .slice A xs.length c])
  obtain ⟨b, o, rfl, hbl, hc⟩ := (h.below hb).atB12 ht
  have HB := Lib.hid hb
  have hti : (t : Int) < (xs.length : Int) := by omega
  clear hb h
  generalize xs[t] = r at *
  go_enter Tryz.func258, Tryz.ntmps258
  go_upto_region 1 with fail
  generalize World.alloc w _ = w1 at *
  have k0 := K1.out.cell 0
  have k1 := K1.out.cell 1
  have k3 := K1.out.cell 2
  have k2 := K1.out.lt
  go_quiet (fail)
  go_wp2
  go_ret
  exact ⟨rfl, below_drewN HB.out _⟩
theorem slices_ContainsFunc_need (v : Value) (P : List Fm) (T : Nat → Prop) (k : FuncId) (cap : Array Value) (q : Nat → Bool) (w : World) (h : RdS (ndS P) T w v (mdx P)) (hl : P.length ≤ 20)
    (hk : ∀ (args : Array Value) (w : World), (callFunc k args).run Tryz.prog w = .ok (.enter k args) w)
    (hf : ∀ w', Below w.heap.size w w' → ∀ i ∈ mdx P, ∀ (A : Option Addr) (n c : Nat), Sl cB w' (.slice A n c) (inr P i) → Calls Tryz.prog k (#[.agg #[.int .i64 (i : Int), .int .i64 (kdF (P.getD i .fls)), .slice A n c]] ++ cap) w' fun e w'' => e = .returned (.bool (q i)) ∧ Below w'.heap.size w' w'') :
    Calls Tryz.prog 255 #[v, .func (.func k) #[] cap] w fun e w' => e = .returned (.bool ((mdx P).any q)) ∧ Below w.heap.size w w' := by
  have hN : (mdx P).length ≤ 20 := by
    unfold mdx mdK
    have := List.length_filter_le (ism P) (List.range P.length)
    rw [List.length_range] at this
    omega
  have HI : Hid (Calls Tryz.prog 285 #[v, .func (.func k) #[] cap] w fun e w' => ∃ r : Int, e = .returned (.int .i64 r) ∧ decide (0 ≤ r) = (mdx P).any q ∧ Below w.heap.size w w') := by
    obtain ⟨A, c, rfl⟩ := h.opn
    have HF := Lib.hid hf; clear hf
    have H := Lib.hid h; clear h
    generalize mdx P = M at *
    refine Lib.hid ?_
    go_enter Tryz.func285, Tryz.ntmps285
    go_wp2
    go_loopw [8] (fun i wr => ∃ j : Nat, j ≤ M.length ∧ i = .int .i64 j ∧ (M.take j).any q = false ∧ Below w.heap.size w wr) (fun i _ => M.length - (intOf i).toNat)
    case atStart => exact ⟨0, Nat.zero_le _, rfl, rfl, Below.refl _ _⟩
    case round =>
      obtain ⟨j, hj, rfl, hh, hb⟩ := hrel
      have Hh := Lib.hid hh; clear hh
      by_cases hlt : j < M.length
      · obtain ⟨b, o, a, rfl, hbl, hc, hra⟩ := (H.out.below hb).at_ hlt
        obtain ⟨x, y, ⟨Ai, ni, ci⟩⟩ := a
        have hra : x = (M[j] : Int) ∧ y = kdF (P.getD M[j] .fls) ∧ Sl cB wr (.slice Ai ni ci) (inr P M[j]) := hra
        have hc0 : wr.cell? ⟨b, o + j * 3, none⟩ = some (.int .i64 x) := hc 0 _ rfl
        have hc1 : wr.cell? ⟨b, o + j * 3 + 1, none⟩ = some (.int .i64 y) := hc 1 _ rfl
        have hc2 : wr.cell? ⟨b, o + j * 3 + 2, none⟩ = some (.slice Ai ni ci) := hc 2 _ rfl
        have HS := Lib.hid hra.2.2
        have HT : Hid ((M.take (j + 1)).any q = q M[j]) := Lib.hid (by
          rw [List.take_succ_eq_append_getElem hlt, List.any_append, Hh.out]
          simp)
        have HM := List.getElem_mem hlt
        have HA : Hid (q M[j] = true → M.any q = true) := Lib.hid fun h1 => List.any_eq_true.2 ⟨_, HM, h1⟩
        have HC := HF.out wr hb M[j] HM Ai ni ci HS.out
        rw [← hra.1, ← hra.2.1] at HC
        have HCC := Lib.hid HC
        clear hra hc HC HM
        generalize M[j] = i0 at *
        go_wp2_with fail
        refine HCC.out.mono ?_
        rintro e w1 ⟨rfl, hb1⟩
        have HB : Hid (Below w.heap.size w w1) := Lib.hid (hb.trans (hb1.mono hb.size))
        clear hb1 hb hc0 hc1 hc2
        by_cases hp : q i0 = true
        · rw [hp]
          have HP := Lib.hid hp; clear hp
          go_wp2
          go_ret
          exact ⟨j, rfl, by rw [HA.out HP.out]; simp, HB.out⟩
        · rw [Bool.not_eq_true] at hp
          rw [hp]
          have HP := Lib.hid hp; clear hp
          go_wp2
          go_roundw
          case rel => exact ⟨j + 1, by omega, by go_num, by rw [HT.out, HP.out], HB.out⟩
          case measure => simp [intOf]; omega
      · have HE : Hid (M.any q = false) := Lib.hid (by
          have := Hh.out
          rwa [List.take_of_length_le (by omega)] at this)
        have HB := Lib.hid hb; clear hb
        go_wp2
        go_ret
        exact ⟨-1, rfl, by rw [HE.out]; decide, HB.out⟩
  clear h hf hk
  generalize (mdx P).any q = R at *
  go_enter Tryz.func255, Tryz.ntmps255
  go_wp2_with fail
  refine HI.out.mono ?_
  rintro e w1 ⟨r, rfl, hr, hb⟩
  have HR := Lib.hid hr; clear hr
  have HB := Lib.hid hb; clear hb
  go_wp2
  go_ret
  exact ⟨by rw [← HR.out]; rfl, HB.out⟩
end Go.Proofs.YtgcoohlakcncbaaGreat

/- Contracts of chapter 12, of the reference: the elementary parts of a sequent of two formulas. -/
import Derived.Test.YtgcoohlakcncbaaGreat12R
namespace Go.Proofs.YtgcoohlakcncbaaGreat
open Go.RowKit
set_option linter.unusedVariables false
set_option linter.unusedSimpArgs false
theorem insL_asc (L M : List T8) (h : L.Pairwise (· < ·)) : (insL L M).Pairwise (· < ·) := (foldI M L h).1
theorem insL_mem (L M : List T8) (h : L.Pairwise (· < ·)) (a : T8) : a ∈ insL L M ↔ a ∈ M ∨ a ∈ L := (foldI M L h).2.1 a
theorem alT_asc (fs : List Fm) : (alT fs).Pairwise (· < ·) := sbI8_asc _
theorem alT_insL (fs : List Fm) (f : Fm) : insL (alT fs) (sbs8 f) = alT (fs ++ [f]) :=
  asc8_eq _ _ (insL_asc _ _ (alT_asc _)) (alT_asc _) fun t => by
    rw [insL_mem _ _ (alT_asc _), alT_mem, alT_mem]
    unfold sbs8
    rw [sbI8_mem, sbT8_mem]
    constructor
    · rintro (h | ⟨x, hx, r⟩)
      · exact ⟨f, by simp, h⟩
      · exact ⟨x, by simp [hx], r⟩
    · rintro ⟨x, hx, r⟩
      rw [List.mem_append, List.mem_singleton] at hx
      rcases hx with hx | rfl
      · exact .inr ⟨x, hx, r⟩
      · exact .inl r
def tx8 (f : Fm) : T8 := t8 (txt f)
theorem bs_tx8 (fs : List Fm) : bs (fs.map tx8) = fs.map txt := by
  unfold bs
  rw [List.map_map]
  rfl
/-- the two formulas of a sequent, in the order of their texts, each once -/
theorem uni_fm (f g : Fm) (hf : f.ok = true) (hg : g.ok = true) : ∃ U : List Fm, insL [tx8 f] [tx8 g] = U.map tx8 ∧ U.length ≤ 2 ∧ ∀ x, x ∈ U ↔ x ∈ [f, g] := by
  show ∃ U : List Fm, ins8 (tx8 g) [tx8 f] = U.map tx8 ∧ U.length ≤ 2 ∧ ∀ x, x ∈ U ↔ x ∈ [f, g]
  unfold ins8
  split
  · exact ⟨[f, g], rfl, Nat.le_refl _, fun x => Iff.rfl⟩
  · split
    · rename_i h
      have e : f = g := txt_inj hf hg (t8_inj h)
      subst e
      exact ⟨[f], rfl, by simp, fun x => by simp⟩
    · exact ⟨[g, f], rfl, Nat.le_refl _, fun x => by simp [or_comm]⟩
set_option maxRecDepth 100000 in
theorem spec_l11Parts_1 (f g : Fm) (lv rv : Value) (w : World) (hl : Sl cS w lv [txt f]) (hr : Sl cS w rv [txt g]) (hf : f.ok = true) (hg : g.ok = true) (h40 : (enc f).length ≤ 40) (h40' : (enc g).length ≤ 40) :
    Calls Tryz.prog 239 #[.agg #[lv, rv]] w fun e w' => ∃ u, e = .returned u ∧ Sl cS w' u (bs (alT [f, g])) ∧ Below w.heap.size w w' := by
  obtain ⟨A0, c0, rfl⟩ := hl.opn
  obtain ⟨A1, c1, rfl⟩ := hr.opn
  have HL := Lib.hid hl
  have HR := Lib.hid hr
  clear hl hr
  rw [show [txt f].length = 1 from rfl] at HL ⊢
  rw [show [txt g].length = 1 from rfl] at HR ⊢
  obtain ⟨U, hU, hU2, hUm⟩ := uni_fm f g hf hg
  have HU := Lib.hid (fun W (a : Sl cS W (.slice A0 1 c0) [txt f]) (b : Sl cS W (.slice A1 1 c1) [txt g]) => spec_l11Union _ _ [tx8 f] [tx8 g] W a b (by simp))
  rw [hU, bs_tx8] at HU
  have HAL : Hid (alT [f, g] = alT U) := Lib.hid (alT_eq fun x => (hUm x).symm)
  have HG : Hid (∀ x ∈ U, x.ok = true ∧ (enc x).length ≤ 40) := Lib.hid fun x hx => by
    have := (hUm x).1 hx
    simp only [List.mem_cons, List.not_mem_nil, or_false] at this
    rcases this with rfl | rfl
    · exact ⟨hf, h40⟩
    · exact ⟨hg, h40'⟩
  rw [HAL.out]
  clear HAL hU hUm hf hg h40 h40'
  obtain ⟨n, hn⟩ : ∃ n, U.length = n := ⟨_, rfl⟩
  have HN := Lib.hid hn
  rw [hn] at hU2
  clear hn
  go_enter Tryz.func239, Tryz.ntmps239
  go_upto_region 1 with fail
  have hb := below_alloc' w (.cells #[.slice A0 1 c0, .slice A1 1 c1] 41)
  have K1 := Lib.hid (Blk.new w 41 #[.slice A0 1 c0, .slice A1 1 c1])
  have HB := Lib.hid hb
  replace HL := Lib.hid (HL.out.below hb)
  replace HR := Lib.hid (HR.out.below hb)
  clear hb
  generalize World.alloc w _ = w1 at *
  have k0 := K1.out.cell 0
  have k1 := K1.out.cell 1
  have k2 := K1.out.lt
  have E0 := Lib.hid (Ow.lit (K := cS) (e := 9) (w := w1) (B := w1.heap.size) [] rfl rfl (Nat.le_refl _)).sl
  have B0 := Lib.hid (bthen HB.out (below_alloc' w1 (.cells #[] 9)))
  go_wp2_with fail
  refine (HU.out _ (HL.out.alloc _) (HR.out.alloc _)).mono ?_
  rintro e w2 ⟨u2, rfl, hs, hb⟩
  have S2 := Lib.hid hs
  have E2 := Lib.hid (E0.out.below hb)
  have B2 := Lib.hid (bthen B0.out hb)
  clear hs hb HU k0 k1 k2 E0 B0
  obtain ⟨A2, c2, rfl⟩ := S2.out.opn
  rw [List.length_map, HN.out] at S2 ⊢
  go_wp2
  go_loopw [3, 5, 6, 7] (fun a i x y wr => ∃ k : Nat, i = .int .i64 (k : Int) ∧ k ≤ n ∧ Sl cS wr a (bs (alT (U.take k))) ∧ Below w.heap.size w wr ∧ Below w2.heap.size w2 wr) (fun _ i _ _ _ => n - (intOf i).toNat)
  case atStart => exact ⟨0, rfl, Nat.zero_le _, E2.out, B2.out, Below.refl _ _⟩
  case round =>
    clear B2 E2
    obtain ⟨k, rfl, hk, hS, hb, hb'⟩ := hrel
    have S := Lib.hid hS
    have B := Lib.hid hb
    have B' := Lib.hid hb'
    clear hS hb hb'
    by_cases hkl : k < n
    · have hkU : k < U.length := by rw [HN.out]; exact hkl
      obtain ⟨b, o, rfl, hbl, hc⟩ := (S2.out.below B'.out).atS (k := k) (by rw [List.length_map]; exact hkU)
      rw [List.getElem_map] at hc
      obtain ⟨go, gl⟩ := HG.out U[k] (List.getElem_mem hkU)
      have HT := Lib.hid (fun W => spec_l02GoodG U[k] W go gl)
      have HS := Lib.hid (fun v W (ha : Sl cN W v (enc U[k])) => spec_l02Sub v U[k] W ha gl go)
      have HI := Lib.hid (fun v u W (ha : Sl cS W v (bs (alT (U.take k)))) (hb : Sl cS W u (bs (sbs8 U[k]))) => spec_l11Union v u (alT (U.take k)) (sbs8 U[k]) W ha hb (by
        have h1 := alT_len (U.take k) fun x hx => (HG.out x (List.mem_of_mem_take hx)).2
        have h2 := sbI8_len U[k] (enc U[k]).length
        rw [List.length_take] at h1
        show _ + (sbI8 (sbT8 U[k] (enc U[k]).length)).length ≤ _
        omega))
      rw [alT_insL, ← List.take_succ_eq_append_getElem hkU] at HI
      clear go gl
      generalize U[k] = q at *
      go_wp2_with fail
      refine (HT.out _).mono ?_
      rintro e w3 ⟨A3, c3, rfl, ho, hb⟩
      have O3 := Lib.hid ho.sl
      have S3 := Lib.hid (S.out.below hb)
      have B3 := Lib.hid (bthen B.out hb)
      have B3' := Lib.hid (bthen B'.out hb)
      clear ho hb hc hbl
      go_wp2_with fail
      refine (HS.out _ _ O3.out).mono ?_
      rintro e w4 ⟨u4, rfl, hs, hb⟩
      have O4 := Lib.hid hs
      have S4 := Lib.hid (S3.out.below hb)
      have B4 := Lib.hid (bthen B3.out hb)
      have B4' := Lib.hid (bthen B3'.out hb)
      clear hs hb
      go_wp2_with fail
      refine (HI.out _ _ _ S4.out O4.out).mono ?_
      rintro e w5 ⟨u5, rfl, hs, hb⟩
      have O5 := Lib.hid hs
      have B5 := Lib.hid (bthen B4.out hb)
      have B5' := Lib.hid (bthen B4'.out hb)
      clear hs hb
      go_wp2
      go_roundw
      case rel => exact ⟨k + 1, by go_num, by omega, O5.out, B5.out, B5'.out⟩
      case measure => simp [intOf]; omega
    · obtain rfl : k = n := by omega
      have HTA : Hid (U.take k = U) := Lib.hid (by rw [← HN.out]; exact List.take_length)
      rw [HTA.out] at S
      clear hk hkl
      go_wp2
      go_ret
      exact ⟨_, rfl, S.out, B.out⟩
set_option maxRecDepth 100000 in
theorem spec_l12Elementary_1 (f g : Fm) (lv rv : Value) (w : World) (hl : Sl cS w lv [txt f]) (hr : Sl cS w rv [txt g]) (hf : f.ok = true) (hg : g.ok = true) (h40 : (enc f).length ≤ 40) (h40' : (enc g).length ≤ 40) :
    Calls Tryz.prog 203 #[.agg #[lv, rv]] w fun e w' => ∃ u, e = .returned u ∧ Ow cS 9 w.heap.size w' u ((elF [f, g]).map txt) ∧ Below w.heap.size w w' := by
  obtain ⟨A0, c0, rfl⟩ := hl.opn
  obtain ⟨A1, c1, rfl⟩ := hr.opn
  have HL := Lib.hid hl
  have HR := Lib.hid hr
  clear hl hr
  rw [show [txt f].length = 1 from rfl] at HL ⊢
  rw [show [txt g].length = 1 from rfl] at HR ⊢
  have HF := Lib.hid (fun W a b => spec_l11Parts_1 f g (.slice A0 1 c0) (.slice A1 1 c1) W a b hf hg h40 h40')
  have hgd : ∀ x ∈ [f, g], x.ok = true ∧ (enc x).length ≤ 40 := fun x hx => by
    simp only [List.mem_cons, List.not_mem_nil, or_false] at hx
    rcases hx with rfl | rfl
    · exact ⟨hf, h40⟩
    · exact ⟨hg, h40'⟩
  have HPT : Hid (∀ t ∈ alT [f, g], ∃ g : Fm, g.ok = true ∧ (enc g).length ≤ 40 ∧ t = t8 (txt g)) := Lib.hid fun t ht => by
    obtain ⟨f, hf, g, hp, e⟩ := alT_mem.1 ht
    exact ⟨g, part_ok (hgd f hf).1 hp, Nat.le_trans (part_len hp) (hgd f hf).2, e⟩
  have HTL : Hid ((alT [f, g]).length ≤ 80) := Lib.hid (alT_len [f, g] fun f hf => (hgd f hf).2)
  have HEF : Hid (elT (alT [f, g]) = elF [f, g]) := Lib.hid rfl
  clear hf hg h40 h40' hgd
  go_enter Tryz.func203, Tryz.ntmps203
  go_upto_region 1 with fail
  have hb := below_alloc' w (.cells #[.slice A0 1 c0, .slice A1 1 c1] 41)
  have K1 := Lib.hid (Blk.new w 41 #[.slice A0 1 c0, .slice A1 1 c1])
  have HB := Lib.hid hb
  replace HL := Lib.hid (HL.out.below hb)
  replace HR := Lib.hid (HR.out.below hb)
  clear hb
  have hwl : w.heap.size ≤ (World.alloc w (.cells #[.slice A0 1 c0, .slice A1 1 c1] 41)).heap.size := HB.out.size
  have HWL := Lib.hid hwl
  clear hwl
  generalize World.alloc w _ = w1 at *
  have k0 := K1.out.cell 0
  have k1 := K1.out.cell 1
  have k2 := K1.out.lt
  have G0 := Lib.hid (Blk.new w1 9 #[])
  have E0 := Lib.hid (Ow.lit (K := cS) (e := 9) (w := w1) (B := w1.heap.size) [] rfl rfl (Nat.le_refl _))
  have B0 := Lib.hid (bthen HB.out (below_alloc' w1 (.cells #[] 9)))
  go_wp2_with fail
  refine (HF.out _ (HL.out.alloc _) (HR.out.alloc _)).mono ?_
  rintro e w2 ⟨u2, rfl, hs, hb⟩
  have S2 := Lib.hid hs
  have HW12 : Hid (w1.heap.size ≤ w2.heap.size) := Lib.hid (by have h1 := hb.size; simp only [World.size_alloc] at h1; omega)
  have E2 := Lib.hid (E0.out.below hb)
  have G2 := Lib.hid (G0.out.below hb G0.out.lt)
  clear G0
  have B2 := Lib.hid (bthen B0.out hb)
  clear hs hb HF k0 k1 k2 E0 B0
  obtain ⟨A2, c2, rfl⟩ := S2.out.opn
  rw [bs_length] at S2 ⊢
  generalize alT [f, g] = ts at *
  have HSE : Hid (∀ k, 0 < ts.length → (Value.slice A2 ts.length c2).ownBlock = some k → ¬ (k = w1.heap.size ∨ w2.heap.size ≤ k)) := Lib.hid fun k h0 hk => by
    obtain ⟨b, o, rfl, hbl, hc⟩ := S2.out.atS (k := 0) (by rw [bs_length]; exact h0)
    obtain rfl : b = k := by simpa [Value.ownBlock] using hk
    rintro (rfl | hge)
    · have hb := G2.out
      unfold Blk at hb
      simp [World.cell?, hb] at hc
    · omega
  obtain ⟨n, hn⟩ : ∃ n, ts.length = n := ⟨_, rfl⟩
  rw [hn] at S2 HTL ⊢
  have HN := Lib.hid hn
  have htl := HTL.out
  clear hn
  go_wp2
  go_loopw [3, 5, 6, 7] (fun ov i x y wr => ∃ j : Nat, j ≤ n ∧ i = .int .i64 j ∧ Ow cS 9 w1.heap.size wr ov ((elT (ts.take j)).map txt) ∧ (∀ k, ov.ownBlock = some k → k = w1.heap.size ∨ w2.heap.size ≤ k) ∧ Below w.heap.size w wr ∧ KpS (fun k => k = w1.heap.size ∨ w2.heap.size ≤ k) w2 wr) (fun _ i _ _ _ => n - (intOf i).toNat)
  case atStart => exact ⟨0, Nat.zero_le _, rfl, E2.out, fun k hk => .inl (by simpa [Value.ownBlock] using hk.symm), B2.out, KpS.refl _ _⟩
  case round =>
    clear B2 E2
    obtain ⟨j, hj, rfl, ho, hob, hb, hb'⟩ := hrel
    have HOB := Lib.hid hob
    clear hob
    obtain ⟨w5, hw5⟩ : ∃ W, W = wr := ⟨_, rfl⟩
    subst hw5
    obtain ⟨A5, c5, e5⟩ := ho.opn
    obtain ⟨l5, hl5⟩ : ∃ z, ((elT (ts.take j)).map txt).length = z := ⟨_, rfl⟩
    have hl5b : l5 ≤ 80 := by
      rw [← hl5, List.length_map]
      have := elT_len (ts.take j)
      rw [List.length_take] at this
      omega
    rw [hl5] at e5
    subst e5
    have HL5 := Lib.hid hl5
    have O5 := Lib.hid ho
    have B5 := Lib.hid hb
    have B5' := Lib.hid hb'
    clear ho hl5
    by_cases hlt : j < n
    · have hltt : j < ts.length := by rw [HN.out]; exact hlt
      obtain ⟨g, hgo, hgl, hge⟩ := HPT.out ts[j] (List.getElem_mem hltt)
      obtain ⟨b, o, rfl, hbl, hc0⟩ := (S2.out.kps hb' fun k => by rw [← HN.out]; exact HSE.out k (by omega)).atS (k := j) (by rw [bs_length]; exact hltt)
      rw [bs_get _ _ (by rw [bs_length]; exact hltt)] at hc0
      have hst : (⟨⟨ts[j]⟩⟩ : ByteArray) = txt g := by rw [hge]; rfl
      rw [hst] at hc0
      have HTS : Hid ((elT (ts.take (j + 1))).map txt = if isel g = true then (elT (ts.take j)).map txt ++ [txt g] else (elT (ts.take j)).map txt) := Lib.hid (by
        rw [List.take_succ_eq_append_getElem hltt, hge, elT_snoc _ hgo]; split <;> simp)
      have HP := Lib.hid (fun W => spec_l02GoodG g W hgo hgl)
      have HKE := Lib.hid (kdF_el g)
      have i1 : (j : Int) < (n : Int) := by omega
      clear hge hst hb hb'
      go_wp2_with fail
      refine (HP.out _).mono ?_
      rintro e w6 ⟨A6, c6, rfl, ho6, hb6⟩
      obtain ⟨b6, o6, rfl, hbl6, hc6⟩ := ho6.sl.cell (k := 0) (enc_pos g)
      have hk0 : w6.cell? ⟨b6, o6, none⟩ = some (.int .i64 (kdF g)) := by
        have := hc6 0 (.int .i64 ((enc g)[0]'(enc_pos g)).1) rfl
        rw [kdF_enc] at this
        simpa using this
      have hpos := enc_pos g
      have O6 := Lib.hid (O5.out.below hb6)
      have B6 := Lib.hid (bthen B5.out hb6)
      have B6' := Lib.hid (B5'.out.below hb6)
      have hc1 := (hb6.cell (p := ⟨b, o + j, none⟩) hbl).trans hc0
      have hbl1 : b < w6.heap.size := Nat.lt_of_lt_of_le hbl hb6.size
      clear hc0 hbl ho6 hb6 hc6
      generalize txt g = tg at *
      generalize kdF g = kk at *
      have hwz : w1.heap.size ≤ w6.heap.size := Nat.le_trans HW12.out B6'.out.size
      cases hs' : isel g
      · rw [if_neg (by rw [hs']; decide)] at HTS
        rw [hs'] at HKE
        have n0 : (kk == 0) = false := by have := HKE.out; cases h : (kk == 0); rfl; rw [h] at this; cases this
        have n5 : (kk == 5) = false := by have := HKE.out; cases h : (kk == 5); rfl; rw [h, n0] at this; cases this
        have n6 : (kk == 6) = false := by have := HKE.out; cases h : (kk == 6); rfl; rw [h, n0, n5] at this; cases this
        clear hs' HKE
        go_wp2
        go_roundw
        case rel => exact ⟨j + 1, by omega, by go_num, by rw [HTS.out]; exact O6.out, HOB.out, B6.out, B6'.out⟩
        case measure => simp [intOf]; omega
      · rw [if_pos hs'] at HTS
        rw [hs'] at HKE
        have hk : kk = 0 ∨ kk = 5 ∨ kk = 6 := by
          have := HKE.out
          rw [eq_comm, Bool.or_eq_true, Bool.or_eq_true] at this
          simpa using this
        clear hs' HKE
        rcases hk with rfl | rfl | rfl
        all_goals
          go_wp2_with (at_builtin; refine stopHere ?_)
          refine goHere ?_
          refine ap_one (K := cS) _ ty_str rfl _ _ rfl (B := w1.heap.size) (v := .slice A5 l5 c5) (xs := (elT (ts.take j)).map txt) rfl O6.out tg rfl rfl (by rw [HL5.out]; omega) hwz ?_
          intro v7 w7 ho hg1 hb1 hat
          have O7 := Lib.hid ho
          have B7 := Lib.hid (B6.out.trans (hb1.mono HWL.out))
          have hw62 : w2.heap.size ≤ w6.heap.size := B6'.out.size
          have K7 := Lib.hid ((B6'.out.below (below_alloc' w6 (.cells #[.string tg] 9))).grown hg1 HOB.out)
          have HO7 : Hid (∀ k, v7.ownBlock = some k → k = w1.heap.size ∨ w2.heap.size ≤ k) := Lib.hid fun k hk => by
            rcases hat with e | e
            · exact HOB.out k (e.symm.trans hk)
            · rw [e] at hk; injection hk with hk; exact .inr (by omega)
          clear ho hg1 hb1 hat
          go_wp2
          go_roundw
          case rel => exact ⟨j + 1, by omega, by go_num, by rw [HTS.out]; exact O7.out, HO7.out, B7.out, K7.out⟩
          case measure => simp [intOf]; omega
    · obtain rfl : j = n := by omega
      have HTA : Hid (ts.take j = ts) := Lib.hid (by rw [← HN.out]; exact List.take_length)
      rw [HTA.out, HEF.out] at O5
      clear hb hb'
      go_wp2
      go_ret
      exact ⟨_, rfl, O5.out.mono HWL.out, B5.out⟩
end Go.Proofs.YtgcoohlakcncbaaGreat

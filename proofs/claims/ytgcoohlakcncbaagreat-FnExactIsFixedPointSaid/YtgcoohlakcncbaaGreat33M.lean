/- Contracts of the reference: the space of a sequent, equivalence in GL, fixed points. -/
import Derived.Test.YtgcoohlakcncbaaGreat12N
import Derived.Test.YtgcoohlakcncbaaGreatJF
namespace Go.Proofs.YtgcoohlakcncbaaGreat
open Go.RowKit
set_option linter.unusedVariables false
set_option linter.unusedSimpArgs false
set_option maxRecDepth 100000 in
theorem spec_l12Code (f g : Fm) (lv rv : Value) (w : World) (hl : Sl cS w lv [txt f]) (hr : Sl cS w rv [txt g]) (hf : f.ok = true) (hg : g.ok = true) (h40 : (enc f).length ≤ 40) (h40' : (enc g).length ≤ 40) :
    Calls Tryz.prog 129 #[.string ⟨#[71, 76]⟩, .agg #[lv, rv]] w fun e w' => Below w.heap.size w w' ∧ ((8 < (elF [f, g]).length ∧ e = .returned (.tuple #[.pointer none, .int .i64 3])) ∨
      ((elF [f, g]).length ≤ 8 ∧ ∃ p v1 v2 v3 v4 v5 ts, e = .returned (.tuple #[.pointer (some ⟨p, 0, none⟩), .int .i64 0]) ∧ Blk w' p 182 (spCells v1 v2 v3 v4 v5) ∧ Sl cS w' v1 ((elF [f, g]).map txt) ∧ Sl cI w' v5 (li ts) ∧
        (∀ k, v1.ownBlock = some k → k ≠ p ∧ k < w'.heap.size) ∧ (∀ k, v5.ownBlock = some k → k ≠ p ∧ k < w'.heap.size) ∧ (∀ t, t ∈ ts ↔ Alv (elF [f, g]) t) ∧ ts.length ≤ 256 ∧ (∀ t ∈ ts, t < 2 ^ (elF [f, g]).length) ∧ w.heap.size ≤ p)) := by
  obtain ⟨A0, c0, rfl⟩ := hl.opn
  obtain ⟨A1, c1, rfl⟩ := hr.opn
  have HL := Lib.hid hl
  have HR := Lib.hid hr
  clear hl hr
  rw [show [txt f].length = 1 from rfl] at HL ⊢
  rw [show [txt g].length = 1 from rfl] at HR ⊢
  have H1 := Lib.hid (fun W => spec_l12Is_GL W)
  have H2 := Lib.hid (fun W a b => spec_l11Is_1 f g (.slice A0 1 c0) (.slice A1 1 c1) W a b hf hg h40 h40')
  have H3 := Lib.hid (fun W a b => spec_l12Elementary_1 f g (.slice A0 1 c0) (.slice A1 1 c1) W a b hf hg h40 h40')
  have H4 := Lib.hid (fun (hP : (elF [f, g]).length ≤ 8) W a b => spec_l12Make f g _ _ rfl rfl hP (.slice A0 1 c0) (.slice A1 1 c1) W a b hf hg h40 h40')
  have hPl : (elF [f, g]).length ≤ 80 := by
    have h1 := elT_len (alT [f, g])
    have h2 := alT_len [f, g] (fun x hx => by
      simp only [List.mem_cons, List.not_mem_nil, or_false] at hx
      rcases hx with rfl | rfl
      · exact h40
      · exact h40')
    have h3 : (elF [f, g]).length ≤ (alT [f, g]).length := h1
    simp only [List.length_cons, List.length_nil] at h2
    omega
  clear hf hg h40 h40'
  generalize elF [f, g] = P at *
  go_enter Tryz.func129, Tryz.ntmps129
  go_upto_region 1 with fail
  have hb := below_alloc' w (.cells #[.slice A0 1 c0, .slice A1 1 c1] 41)
  have K1 := Lib.hid (Blk.new w 41 #[.slice A0 1 c0, .slice A1 1 c1])
  have HB := Lib.hid hb
  replace HL := Lib.hid (HL.out.below hb)
  replace HR := Lib.hid (HR.out.below hb)
  have HW : Hid (w.heap.size ≤ (World.alloc w (.cells #[.slice A0 1 c0, .slice A1 1 c1] 41)).heap.size) := Lib.hid hb.size
  clear hb
  generalize World.alloc w _ = w1 at *
  go_wp2_with fail
  refine (H1.out _).mono ?_
  rintro e w2 ⟨rfl, hb⟩
  have B2 := Lib.hid (bthen HB.out hb)
  have K2 := Lib.hid (K1.out.below hb K1.out.lt)
  have L2 := Lib.hid (HL.out.below hb)
  have R2 := Lib.hid (HR.out.below hb)
  clear hb HL HR K1 HB H1
  have k0 := K2.out.cell 0
  have k1 := K2.out.cell 1
  have k2 := K2.out.lt
  go_wp2_with fail
  refine (H2.out _ L2.out R2.out).mono ?_
  rintro e w3 ⟨rfl, hb⟩
  have B3 := Lib.hid (bthen B2.out hb)
  have K3 := Lib.hid (K2.out.below hb K2.out.lt)
  have L3 := Lib.hid (L2.out.below hb)
  have R3 := Lib.hid (R2.out.below hb)
  clear hb L2 R2 K2 B2 H2 k0 k1 k2
  have k0 := K3.out.cell 0
  have k1 := K3.out.cell 1
  have k2 := K3.out.lt
  go_wp2_with fail
  refine (H3.out _ L3.out R3.out).mono ?_
  rintro e w4 ⟨u, rfl, ho, hb⟩
  obtain ⟨A4, c4, rfl⟩ := ho.opn
  rw [List.length_map] at ho ⊢
  have B4 := Lib.hid (bthen B3.out hb)
  have K4 := Lib.hid (K3.out.below hb K3.out.lt)
  have L4 := Lib.hid (L3.out.below hb)
  have R4 := Lib.hid (R3.out.below hb)
  clear hb ho L3 R3 K3 B3 H3 k0 k1 k2
  by_cases h8 : P.length ≤ 8
  · have i8 : (P.length : Int) ≤ 8 := by omega
    have H5 := Lib.hid (H4.out h8)
    have k0 := K4.out.cell 0
    have k1 := K4.out.cell 1
    have k2 := K4.out.lt
    clear H4
    go_wp2_with fail
    refine (H5.out _ L4.out R4.out).mono ?_
    rintro e w5 ⟨p, v1, v2, v3, v4, v5, ts, rfl, hK, hS, hT, hc1, hc5, hA, hl, hN, hp, hb⟩
    have B5 := Lib.hid (bthen B4.out hb)
    have HK := Lib.hid hK
    have HS := Lib.hid hS
    have HT := Lib.hid hT
    have HP : Hid (w.heap.size ≤ p) := Lib.hid (by have := B4.out.size; omega)
    clear hK hS hT hp hb k0 k1 k2 i8
    go_wp2
    refine bodyPost_ret (v := .tuple #[.pointer (some ⟨p, 0, none⟩), .int .i64 0]) (by simp [results, Tryz.results129, go_sem]) rfl ⟨B5.out, .inr ⟨h8, p, v1, v2, v3, v4, v5, ts, rfl, HK.out, HS.out, HT.out, hc1, hc5, hA, hl, hN, HP.out⟩⟩
  · have i8 : (8 : Int) < (P.length : Int) := by omega
    have h9 : 8 < P.length := by omega
    clear H4
    go_wp2
    refine bodyPost_ret (v := .tuple #[.pointer none, .int .i64 3]) (by simp [results, Tryz.results129, go_sem]) rfl ⟨B4.out, .inl ⟨h9, rfl⟩⟩
set_option maxRecDepth 100000 in
theorem spec_AreModallyEquivalent_GL (f g : Fm) (v u : Value) (w : World) (h : Sl cN w v (enc f)) (h' : Sl cN w u (enc g)) (hl : (enc f).length ≤ 40) (hl' : (enc g).length ≤ 40) (hf : f.ok = true) (hg : g.ok = true) :
    Calls Tryz.prog 58 #[.string ⟨#[71, 76]⟩, v, u] w fun e w' => e = .returned (.tuple (if 8 < (elF [f, g]).length then #[.bool false, .int .i64 3] else #[.bool (thB [f] [g] && thB [g] [f]), .int .i64 0])) ∧ Below w.heap.size w w' := by
  obtain ⟨A0, c0, rfl⟩ := h.opn
  obtain ⟨A1, c1, rfl⟩ := h'.opn
  have HF := Lib.hid h
  have HG := Lib.hid h'
  have H1 := Lib.hid (fun W => spec_l12Is_GL W)
  have H2 : Hid (∀ W, Sl cN W (.slice A0 (enc f).length c0) (enc f) → Calls Tryz.prog 54 #[.slice A0 (enc f).length c0] W fun e w' => e = .returned (.bool true) ∧ W = w') := Lib.hid fun W hW => by
    have e1 : isF (enc f) = true := (isF_iff _).2 ⟨f, hf, rfl, hl⟩
    exact e1 ▸ spec_l02Is _ (enc f) W hW (by omega)
  have H3 : Hid (∀ W, Sl cN W (.slice A1 (enc g).length c1) (enc g) → Calls Tryz.prog 54 #[.slice A1 (enc g).length c1] W fun e w' => e = .returned (.bool true) ∧ W = w') := Lib.hid fun W hW => by
    have e1 : isF (enc g) = true := (isF_iff _).2 ⟨g, hg, rfl, hl'⟩
    exact e1 ▸ spec_l02Is _ (enc g) W hW (by omega)
  have H4 := Lib.hid (fun W hW => spec_l02Text f (.slice A0 (enc f).length c0) W hW (by omega) hf)
  have H5 := Lib.hid (fun W hW => spec_l02Text g (.slice A1 (enc g).length c1) W hW (by omega) hg)
  have H6 := Lib.hid (fun lv rv W a b => spec_l12Code f g lv rv W a b hf hg hl hl')
  clear h h'
  go_enter Tryz.func58, Tryz.ntmps58
  go_wp2_with fail
  refine (H1.out _).mono ?_
  rintro e w1 ⟨rfl, hb⟩
  have B1 := Lib.hid hb
  have F1 := Lib.hid (HF.out.below hb)
  have G1 := Lib.hid (HG.out.below hb)
  clear hb HF HG H1
  go_wp2_with fail
  refine (H2.out _ F1.out).mono ?_
  rintro e w2 ⟨rfl, rfl⟩
  go_wp2_with fail
  refine (H3.out _ G1.out).mono ?_
  rintro e w2 ⟨rfl, rfl⟩
  go_wp2_with fail
  refine (H4.out _ F1.out).mono ?_
  rintro e w2 ⟨rfl, hb⟩
  have B2 := Lib.hid (bthen B1.out hb)
  have G2 := Lib.hid (G1.out.below hb)
  have hb2 := below_alloc' w2 (.cells #[.string (txt f)] 9)
  have SF : Hid (Sl cS (w2.alloc (.cells #[.string (txt f)] 9)) (.slice (some ⟨w2.heap.size, 0, none⟩) 1 1) [txt f]) := Lib.hid (Ow.lit (K := cS) (e := 9) (w := w2) (B := w2.heap.size) (n := 1) [txt f] (hm := by simp) rfl rfl (Nat.le_refl _)).sl
  clear hb H2 H3 H4 F1 B1
  go_wp2_with fail
  refine (H5.out _ (G2.out.alloc _)).mono ?_
  rintro e w3 ⟨rfl, hb⟩
  have hz3 : w2.heap.size < w3.heap.size := by have := hb.size; simp only [World.size_alloc] at this; omega
  have S3 := Lib.hid (SF.out.below hb)
  have B3 := Lib.hid (bthen (bthen B2.out hb2) hb)
  clear hb hb2 G2 SF H5 B2
  go_upto_region 6 with fail
  obtain ⟨hb, -, hK⟩ := box2 w3 #[.string (txt g)] #[.slice (some ⟨w2.heap.size, 0, none⟩) 1 1, .slice (some ⟨w3.heap.size, 0, none⟩) 1 1] 9 41
  have K4 := Lib.hid hK
  have SF4 := Lib.hid (S3.out.below hb)
  have SG4 : Hid (Sl cS ((w3.alloc (.cells #[.string (txt g)] 9)).alloc (.cells #[.slice (some ⟨w2.heap.size, 0, none⟩) 1 1, .slice (some ⟨w3.heap.size, 0, none⟩) 1 1] 41)) (.slice (some ⟨w3.heap.size, 0, none⟩) 1 1) [txt g]) := Lib.hid ((Ow.lit (K := cS) (e := 9) (w := w3) (B := w3.heap.size) (n := 1) [txt g] (hm := by simp) rfl rfl (Nat.le_refl _)).sl.alloc _)
  have B4 := Lib.hid (bthen B3.out hb)
  clear hb hK S3 B3
  have HZ0 : Hid (w.heap.size ≤ (World.alloc (World.alloc w3 (.cells #[.string (txt g)] 9)) (.cells #[.slice (some ⟨w2.heap.size, 0, none⟩) 1 1, .slice (some ⟨w3.heap.size, 0, none⟩) 1 1] 41)).heap.size) := Lib.hid B4.out.size
  have hz4 : w3.heap.size + 1 < (World.alloc (World.alloc w3 (.cells #[.string (txt g)] 9)) (.cells #[.slice (some ⟨w2.heap.size, 0, none⟩) 1 1, .slice (some ⟨w3.heap.size, 0, none⟩) 1 1] 41)).heap.size := K4.out.lt
  generalize World.alloc (World.alloc w3 _) _ = w4 at *
  obtain ⟨ga, hga⟩ : ∃ ga, w2.heap.size = ga := ⟨_, rfl⟩
  obtain ⟨gb, hgb⟩ : ∃ gb, w3.heap.size = gb := ⟨_, rfl⟩
  rw [hga] at K4 SF4 hz3 ⊢
  rw [hgb] at K4 SG4 hz3 hz4 ⊢
  clear hga hgb
  have k0 := K4.out.cell 0
  have k1 := K4.out.cell 1
  have k2 := K4.out.lt
  go_wp2_with fail
  refine (H6.out _ _ _ SF4.out SG4.out).mono ?_
  rintro e w5 ⟨hb, hcase⟩
  have B5 := Lib.hid (bthen B4.out hb)
  have K5 := Lib.hid (K4.out.below hb K4.out.lt)
  have SF5 := Lib.hid (SF4.out.below hb)
  have SG5 := Lib.hid (SG4.out.below hb)
  have hz5 : w4.heap.size ≤ w5.heap.size := hb.size
  clear hb k0 k1 k2 K4 SF4 SG4 B4
  rcases hcase with ⟨h8, rfl⟩ | ⟨h8, p, v1, v2, v3, v4, v5, ts, rfl, hK, hS, hT, hc1, hc5, hA, hl5, hN, hp⟩
  · have HR : Hid ((if 8 < (elF [f, g]).length then #[Value.bool false, .int .i64 3] else #[.bool (thB [f] [g] && thB [g] [f]), .int .i64 0]) = #[Value.bool false, .int .i64 3]) := Lib.hid (if_pos h8)
    go_wp2
    refine bodyPost_ret (v := .tuple #[.bool false, .int .i64 3]) (by simp [results, Tryz.results58, go_sem]) rfl ⟨by first | rfl | rw [HR.out], B5.out⟩
  · have HR : Hid ((if 8 < (elF [f, g]).length then #[Value.bool false, .int .i64 3] else #[.bool (thB [f] [g] && thB [g] [f]), .int .i64 0]) = #[.bool (thB [f] [g] && thB [g] [f]), .int .i64 0]) := Lib.hid (if_neg (by omega))
    have hok : ∀ y ∈ [f, g], y.ok = true := fun y hy => by
      simp only [List.mem_cons, List.not_mem_nil, or_false] at hy
      rcases hy with rfl | rfl
      · exact hf
      · exact hg
    have hPok : ∀ x ∈ elF [f, g], x.ok = true := fun x hx => elF_ok hok hx
    have hinf : inP (elF [f, g]) f := elF_self hok (by simp)
    have hing : inP (elF [f, g]) g := elF_self hok (by simp)
    have hN256 : ∀ t ∈ ts, t < 256 := fun t ht => Nat.lt_of_lt_of_le (hN t ht) (pow8 h8)
    have T1 : Hid ((!(ts.any fun t => vt (elF [f, g]) t f && !vt (elF [f, g]) t g)) = thB [f] [g]) := Lib.hid (by
      rw [Bool.eq_iff_iff, thB_iff]
      show _ ↔ ThmT (elF [f, g]) [f] [g]
      rw [Bool.not_eq_true', ← Bool.not_eq_true, List.any_eq_true]
      constructor
      · intro h t ht hh
        refine ⟨g, by simp, ?_⟩
        cases hgg : vt (elF [f, g]) t g
        · exact absurd ⟨t, (hA t).2 ht, by rw [hh f (by simp), hgg]; rfl⟩ h
        · rfl
      · rintro h ⟨t, ht, h2⟩
        rw [Bool.and_eq_true, Bool.not_eq_true'] at h2
        obtain ⟨x, hx, h3⟩ := h t ((hA t).1 ht) (fun y hy => by rw [List.mem_singleton.1 hy]; exact h2.1)
        rw [List.mem_singleton.1 hx, h2.2] at h3
        cases h3)
    have T2 : Hid ((!(ts.any fun t => vt (elF [f, g]) t g && !vt (elF [f, g]) t f)) = thB [g] [f]) := Lib.hid (by
      have hsw : elF ([g] ++ [f]) = elF [f, g] := elF_eq fun x => by simp [or_comm]
      rw [Bool.eq_iff_iff, thB_iff, hsw]
      rw [Bool.not_eq_true', ← Bool.not_eq_true, List.any_eq_true]
      constructor
      · intro h t ht hh
        refine ⟨f, by simp, ?_⟩
        cases hgg : vt (elF [f, g]) t f
        · exact absurd ⟨t, (hA t).2 ht, by rw [hh g (by simp), hgg]; rfl⟩ h
        · rfl
      · rintro h ⟨t, ht, h2⟩
        rw [Bool.and_eq_true, Bool.not_eq_true'] at h2
        obtain ⟨x, hx, h3⟩ := h t ((hA t).1 ht) (fun y hy => by rw [List.mem_singleton.1 hy]; exact h2.1)
        rw [List.mem_singleton.1 hx, h2.2] at h3
        cases h3)
    have hpl := hK.lt
    obtain ⟨cc, hcc, hcp⟩ : ∃ cc : Nat → Nat, (∀ k, k ≠ p → cc k = 0) ∧ cc p = 1 := ⟨fun k => if k = p then 1 else 0, fun k hk => if_neg hk, if_pos rfl⟩
    have C0 : Hid (SpC (elF [f, g]) w4.heap.size p cc v1 v2 v3 v4 v5 (.slice none 0 0) (.slice none 0 0) ts [] [] [] w5) := Lib.hid
      ⟨hK, hcp, hp, fun k hk => hcc k (by omega), hS, fun k e => ⟨hcc k (hc1 k e).1, (hc1 k e).2⟩, hT, fun k e => ⟨hcc k (hc5 k e).1, (hc5 k e).2⟩, Ow.nil _ _, fun k e => (by cases e), Ow.nil _ _, fun k e => (by cases e), rfl, fun i hi => absurd hi (Nat.not_lt_zero _), fun g hg => (by cases hg)⟩
    have HF1 := Lib.hid (fun c v6 v7 tx hs (hx : tx.length ≤ 900) lv rv W hW a ca b cb => spec_l12First (elF [f, g]) w4.heap.size p c v1 v2 v3 v4 v5 v6 v7 ts tx hs f g h8 hPok hf hl hinf hg hl' hing hN256 hl5 hx lv rv W hW a ca b cb)
    have HF2 := Lib.hid (fun c v6 v7 tx hs (hx : tx.length ≤ 900) lv rv W hW a ca b cb => spec_l12First (elF [f, g]) w4.heap.size p c v1 v2 v3 v4 v5 v6 v7 ts tx hs g f h8 hPok hg hl' hing hf hl hinf hN256 hl5 hx lv rv W hW a ca b cb)
    have CA : Hid (∀ k, (Value.slice (some ⟨ga, 0, none⟩) 1 1).ownBlock = some k → cc k = 0 ∧ k < w5.heap.size) := Lib.hid fun k e => by
      obtain rfl : ga = k := by simpa [Value.ownBlock] using e
      exact ⟨hcc _ (by omega), by omega⟩
    have CB : Hid (∀ k, (Value.slice (some ⟨gb, 0, none⟩) 1 1).ownBlock = some k → cc k = 0 ∧ k < w5.heap.size) := Lib.hid fun k e => by
      obtain rfl : gb = k := by simpa [Value.ownBlock] using e
      exact ⟨hcc _ (by omega), by omega⟩
    have H1st := Lib.hid (HF1.out _ _ _ [] [] (by simp) _ _ w5 C0.out SF5.out CA.out SG5.out CB.out)
    have hbp : cc (gb + 1) = 0 := hcc _ (by omega)
    have HBP := Lib.hid hbp
    have hpw : w.heap.size ≤ w4.heap.size := HZ0.out
    clear hK hS hT hc1 hc5 hA hN hok hPok hinf hing hN256 HF1 hbp
    have k0 := K5.out.cell 0
    have k1 := K5.out.cell 1
    have k2 := K5.out.lt
    go_wp2_with fail
    refine H1st.out.mono ?_
    rintro e w6 ⟨r, c6, v6, v7, tx, hs, rfl, hr, hsp, hxl, hsame, hkp⟩
    rw [T1.out] at hr
    have SP6 := Lib.hid hsp
    have KP6 := Lib.hid hkp
    have K6 := Lib.hid (K5.out.kps hkp (by rw [HBP.out]; decide))
    have SF6 := Lib.hid (SF5.out.kps hkp fun k e => by rw [(CA.out k e).1]; decide)
    have SG6 := Lib.hid (SG5.out.kps hkp fun k e => by rw [(CB.out k e).1]; decide)
    have hz56 : w5.heap.size ≤ w6.heap.size := KpS.size hkp
    have CA6 : Hid (∀ k, (Value.slice (some ⟨ga, 0, none⟩) 1 1).ownBlock = some k → c6 k = 0 ∧ k < w6.heap.size) := Lib.hid fun k e => ⟨by rw [hsame k (CA.out k e).2]; exact (CA.out k e).1, by have := (CA.out k e).2; omega⟩
    have CB6 : Hid (∀ k, (Value.slice (some ⟨gb, 0, none⟩) 1 1).ownBlock = some k → c6 k = 0 ∧ k < w6.heap.size) := Lib.hid fun k e => ⟨by rw [hsame k (CB.out k e).2]; exact (CB.out k e).1, by have := (CB.out k e).2; omega⟩
    have B6 := Lib.hid (B5.out.trans (KpS.toBelow (B := w.heap.size) hkp B5.out.size fun k hk e => by
      have h1 : cc k = 0 := hcc k (by omega)
      rw [h1] at e
      rcases e with e | e | e <;> cases e))
    have SAME := Lib.hid hsame
    have hxl : tx.length ≤ 2 := by simpa using hxl
    clear hsp hsame hkp SF5 SG5 C0 B5 H1st CA CB k0 k1 k2 K5 T1
    cases ht1 : thB [f] [g]
    · rw [ht1] at hr
      have HB1 := Lib.hid ht1
      have hr0 : (r < 0) = False := by simpa using hr
      have hr1 : ¬ r < 0 := by rw [hr0]; exact id
      clear hr hr0 ht1
      go_wp2
      refine bodyPost_ret (v := .tuple #[.bool false, .int .i64 0]) (by simp [results, Tryz.results58, go_sem]) rfl ⟨by rw [HB1.out]; rfl, B6.out⟩
    · rw [ht1] at hr
      have HB1 := Lib.hid ht1
      have hr1 : r < 0 := of_decide_eq_true hr
      have H2nd := Lib.hid (HF2.out c6 v6 v7 tx hs (by omega) _ _ w6 SP6.out SG6.out CB6.out SF6.out CA6.out)
      have k0 := K6.out.cell 0
      have k1 := K6.out.cell 1
      have k2 := K6.out.lt
      clear hr ht1
      go_wp2_with fail
      refine H2nd.out.mono ?_
      rintro e w7 ⟨r2, c7, v6', v7', tx', hs', rfl, hr, hsp, hxl2, hsame, hkp⟩
      rw [T2.out] at hr
      have hlow := SP6.out.low
      have hz46 : w4.heap.size ≤ w6.heap.size := by omega
      have B7 := Lib.hid (B6.out.trans (KpS.toBelow (B := w.heap.size) hkp B6.out.size fun k hk e => by
        have h1 : c6 k = 0 := hlow k (by omega)
        rw [h1] at e
        rcases e with e | e | e <;> cases e))
      clear hsp hsame hkp hxl2 hlow k0 k1 k2 SP6 KP6 K6 SF6 SG6 CA6 CB6 B6 H2nd HF2 SAME HBP
      cases ht2 : thB [g] [f]
      · rw [ht2] at hr
        have HB2 := Lib.hid ht2
        have HD := Lib.hid hr
        clear hr ht2
        go_wp2
        refine bodyPost_ret (v := .tuple #[.bool false, .int .i64 0]) (by simp [results, Tryz.results58, go_sem, HD.out]) rfl ⟨by rw [HB1.out, HB2.out]; rfl, B7.out⟩
      · rw [ht2] at hr
        have HB2 := Lib.hid ht2
        have hr2 : r2 < 0 := of_decide_eq_true hr
        clear hr ht2
        go_wp2
        refine bodyPost_ret (v := .tuple #[.bool true, .int .i64 0]) (by simp [results, Tryz.results58, go_sem]) rfl ⟨by rw [HB1.out, HB2.out]; rfl, B7.out⟩
end Go.Proofs.YtgcoohlakcncbaaGreat

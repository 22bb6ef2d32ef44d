/- Joined of several texts. -/
import Derived.Test.YtcikenffeekkeaaGreatDoorY48
import Derived.Test.YtcikenffeekkeaaGreatDoorY38
namespace Go.Proofs.YtcikenffeekkeaaGreatDoor
/- The discharger: the lines for a line that depends on no hypothesis. Written by gen13Z.py. -/
open Go.RowKit
set_option linter.unusedVariables false
set_option linter.unusedSimpArgs false
theorem blks_agg3 {x y z : Int} {k : Nat} {A : Option Addr} {n c : Nat} : k ∈ blks (.agg #[.int .i64 x, .int .i64 y, .int .i64 z, .slice A n c]) ↔ k ∈ blks (.slice A n c) := by
  simp [blks, blksA, blks_int, mem_blk1]
set_option maxRecDepth 100000 in
set_option maxHeartbeats 4000000 in
theorem impl_line_keep {g D : Nat} {c : Nat → Nat} {va vl vs vi vh vP vu : Value} {ls : List Ln} {se im : List Int} {w0 w : World} {t : List UInt8} {hy : List (List Nd)} {P : List Ln} {em : List Bool} {a xs : List Nd} {k : Nat}
    (h : DsM w0.heap.size g c va vl vs vi ls se im w) (hb : Below w0.heap.size w0 w) (hD : Blk w0 D 85 #[.string ⟨⟨t⟩⟩, vh, vP, vu]) (hH : ∃ A c, vh = .slice A hy.length c) (hhl : hy.length ≤ 1048576) (hP : SlL w0 vP P) (hPl : P.length ≤ 200) (hU : UsR w0 vu em) (hel : em.length = P.length) (hk : k < P.length)
    (ha : Sl cN w0 va a) (hla : a.length ≤ 40) (hxs : ∀ l ∈ P, l.x.length ≤ 40) (hl : ls.length ≤ 995) (hse : se.length ≤ 200) (him : im.length ≤ 200)
    (r f s : Int) (hPk : P[k] = ⟨r, f, s, xs⟩) (hem : em[k] = false) (hpr : ∀ x ∈ prmL ⟨r, f, s, xs⟩, ∃ i : Nat, x = i ∧ i < se.length) :
    Calls Tryz.prog 23 #[.pointer (some ⟨g, 0, none⟩), .pointer (some ⟨D, 0, none⟩), .int .i64 (k : Int)] w fun e w' => e = .returned (.tuple #[]) ∧ ∃ vl' vs' vi' c',
      DsM w0.heap.size g c' va vl' vs' vi' (ls ++ (⟨r, mvf se ⟨r, f, s, xs⟩, mvs se ⟨r, f, s, xs⟩, xs⟩ :: wkLs a xs (ls.length + 1) ls.length)) (se ++ [(ls.length : Int)]) (im ++ [(ls.length : Int) + 2]) w' ∧ Below w0.heap.size w0 w' := by
  have hlx := hxs _ (List.getElem_mem hk)
  rw [hPk] at hlx
  simp only at hlx
  have HXS := Lib.hid hxs
  have HPA := Lib.hid hP
  have HA := Lib.hid ha
  have hwz := hb.size
  obtain ⟨AP, cP', rfl⟩ := hP.opn
  obtain ⟨AU, cU, rfl⟩ := hU.opn
  obtain ⟨Ah, ch, rfl⟩ := hH
  obtain ⟨bL, oL, Ax, cx, rfl, hbL, l0, l1, l2, l3, hsx⟩ := hP.at_ hk
  obtain ⟨bU, oU, Au, nu, cu, rfl, hbU, u0, hnu⟩ := hU.at_ (k := k) (by omega)
  rw [hem] at hnu
  have hkU : k < em.length := by omega
  rw [hPk] at l0 l1 l2 l3 hsx
  simp only at l0 l1 l2 l3 hsx
  have l0 := (hb.cell (p := ⟨bL, oL + k * 4, none⟩) hbL).trans l0
  have l1 := (hb.cell (p := ⟨bL, oL + k * 4 + 1, none⟩) hbL).trans l1
  have l2 := (hb.cell (p := ⟨bL, oL + k * 4 + 2, none⟩) hbL).trans l2
  have l3 := (hb.cell (p := ⟨bL, oL + k * 4 + 3, none⟩) hbL).trans l3
  have u0 := (hb.cell (p := ⟨bU, oU + k, none⟩) hbU).trans u0
  have HX := Lib.hid hsx
  have HDD := Lib.hid hD
  have d1 : w.cell? ⟨D, 1, none⟩ = some (.slice Ah hy.length ch) := (hb.cell (p := ⟨D, 1, none⟩) hD.lt).trans (hD.cell 1)
  have d2 : w.cell? ⟨D, 2, none⟩ = some (.slice (some ⟨bL, oL, none⟩) P.length cP') := (hb.cell (p := ⟨D, 2, none⟩) hD.lt).trans (hD.cell 2)
  have d3 : w.cell? ⟨D, 3, none⟩ = some (.slice (some ⟨bU, oU, none⟩) em.length cU) := (hb.cell (p := ⟨D, 3, none⟩) hD.lt).trans (hD.cell 3)
  have hDl : D < w.heap.size := Nat.lt_of_lt_of_le hD.lt hwz
  have hbL' : bL < w.heap.size := Nat.lt_of_lt_of_le hbL hwz
  have hbU' : bU < w.heap.size := Nat.lt_of_lt_of_le hbU hwz
  have HDl := Lib.hid hD.lt
  have HbL := Lib.hid hbL
  obtain ⟨cs, hcs⟩ : ∃ cs : Array Value, cs = #[.int .i64 r, .int .i64 f, .int .i64 s, .slice Ax xs.length cx] := ⟨_, rfl⟩
  have HCS := Lib.hid hcs
  have hb1 := below_alloc' w (.cells #[.int .i64 r, .int .i64 f, .int .i64 s, .slice Ax xs.length cx] 46)
  have hp0 : FbW (fz c w.heap.size) (w.alloc (.cells #[.int .i64 r, .int .i64 f, .int .i64 s, .slice Ax xs.length cx] 46)) w.heap.size cs := ⟨by rw [hcs]; exact Blk.new w 46 _, fz_ge (Nat.le_refl _)⟩
  have h1 := h.go hb1
  have HB1 := Lib.hid (hb.trans (hb1.mono hb.size))
  have HBW := Lib.hid (hb1)
  obtain ⟨As, cs9, rfl⟩ := h.se_.opn
  have HPR := Lib.hid hpr
  clear hpr
  clear h hb hP hU hsx hD ha hxs hcs hb1 hwz hbL hbU hPk hem
  go_enter Tryz.func23, Tryz.ntmps23
  go_upto_region 3 with fail
  obtain ⟨w1, hw1⟩ : ∃ W, W = w.alloc (.cells #[.int .i64 r, .int .i64 f, .int .i64 s, .slice Ax xs.length cx] 46) := ⟨_, rfl⟩
  rw [← hw1] at h1 hp0 HB1 HBW ⊢
  obtain ⟨p, hp⟩ : ∃ p, w.heap.size = p := ⟨_, rfl⟩
  rw [hp] at h1 hp0 HBW ⊢
  have HPE := Lib.hid hp
  clear hw1 hp
  generalize fz c p = c1 at *
  have H1 := Lib.hid h1
  have HP1 := Lib.hid hp0
  clear h1 hp0 d1 d2 d3 l0 l1 l2 l3 u0 hDl hbL' hbU'
  have p0 : w1.cell? ⟨p, 0, none⟩ = some (.int .i64 r) := (HP1.out.1.cell 0).trans (by rw [HCS.out]; rfl)
  have p1 : w1.cell? ⟨p, 1, none⟩ = some (.int .i64 f) := (HP1.out.1.cell 1).trans (by rw [HCS.out]; rfl)
  have p2 : w1.cell? ⟨p, 2, none⟩ = some (.int .i64 s) := (HP1.out.1.cell 2).trans (by rw [HCS.out]; rfl)
  have p3 : w1.cell? ⟨p, 3, none⟩ = some (.slice Ax xs.length cx) := (HP1.out.1.cell 3).trans (by rw [HCS.out]; rfl)
  have lp : p < w1.heap.size := HP1.out.1.lt
  have g2 : w1.cell? ⟨g, 2, none⟩ = some (.slice As se.length cs9) := H1.out.blk.cell 2
  have lg := H1.out.blk.lt
  have HRN := Lib.hid (fun W (hW : Below w1.heap.size w1 W) => impl_renumbered ⟨r, f, s, xs⟩ (.slice Ax xs.length cx) (.slice As se.length cs9) se W ((HX.out.below HB1.out).below hW) (H1.out.se_.sl.below hW) HPR.out (by simp only; omega) (by omega))
  simp only at HRN
  obtain ⟨mf, hmf⟩ : ∃ x, mvf se ⟨r, f, s, xs⟩ = x := ⟨_, rfl⟩
  obtain ⟨ms, hms⟩ : ∃ x, mvs se ⟨r, f, s, xs⟩ = x := ⟨_, rfl⟩
  rw [hmf, hms] at HRN
  have HMF := Lib.hid hmf
  have HMS := Lib.hid hms
  clear hmf hms
  refine wp_region_rely (Below w1.heap.size w1) [fun _ v _ => v = .agg #[.int .i64 r, .int .i64 f, .int .i64 s, .slice Ax xs.length cx], fun _ v _ => v = .pointer (some ⟨g, 0, none⟩), fun _ v _ => v = .pointer (some ⟨g, 0, none⟩), fun _ v _ => v = .pointer (some ⟨g, 2, none⟩), fun _ v _ => v = .slice As se.length cs9,
      fun _ v X => ∃ A c, v = .agg #[.int .i64 r, .int .i64 mf, .int .i64 ms, .slice A xs.length c] ∧ Ow cN 75 w1.heap.size X (.slice A xs.length c) xs,
      fun _ v X => ∃ b, v = .pointer (some ⟨b, 0, none⟩) ∧ w1.heap.size ≤ b ∧ Blk X b 46 #[.int .i64 0, .int .i64 0, .int .i64 0, .slice none 0 0]]
      [none, none, none, none, none, some 5, some 6]
      [(some 37, []), (some 38, []), (some 39, [(1, some 38)]), (some 40, [(2, some 39)]), (some 41, [(3, some 40)]), (some 42, [(0, some 37), (4, some 41)]), (some 7, [])] 91
      (by kernel_rfl) (by kernel_rfl) rfl ((Below.refl _ _).drew) (fun X Y h hb => h.trans (hb.mono h.size)) ?st ?en
  case st =>
    refine stepsR_cons ?_ (stepsR_cons ?_ (stepsR_cons ?_ (stepsR_cons ?_ (stepsR_cons ?_ (stepsR_cons ?_ (stepsR_cons ?_ stepsR_nil))))))
    · intro X hX
      have p0' := (hX.cell (p := ⟨p, 0, none⟩) lp).trans p0
      have p1' := (hX.cell (p := ⟨p, 1, none⟩) lp).trans p1
      have p2' := (hX.cell (p := ⟨p, 2, none⟩) lp).trans p2
      have p3' := (hX.cell (p := ⟨p, 3, none⟩) lp).trans p3
      refine stepR_of rfl ?_
      intro K hK
      go_simp
      exact hK _ _ (Below.refl _ _) rfl (fun h => absurd rfl h) rfl
    · intro X hX
      refine stepR_of rfl ?_
      intro K hK
      go_simp
      exact hK _ _ (Below.refl _ _) rfl (fun h => absurd rfl h) rfl
    · intro X hX v0 f0
      obtain ⟨q0, X0, hX0, rfl⟩ := f0
      refine stepR_of rfl ?_
      intro K hK
      go_simp
      exact hK _ _ (Below.refl _ _) rfl (fun h => absurd rfl h) rfl
    · intro X hX v0 f0
      obtain ⟨q0, X0, hX0, rfl⟩ := f0
      refine stepR_of rfl ?_
      intro K hK
      go_simp
      exact hK _ _ (Below.refl _ _) rfl (fun h => absurd rfl h) rfl
    · intro X hX v0 f0
      obtain ⟨q0, X0, hX0, rfl⟩ := f0
      have g2' := (hX.cell (p := ⟨g, 2, none⟩) lg).trans g2
      refine stepR_of rfl ?_
      intro K hK
      go_simp
      exact hK _ _ (Below.refl _ _) rfl (fun h => absurd rfl h) rfl
    · intro X hX v0 f0 v4 f4
      obtain ⟨q0, X0, hX0, rfl⟩ := f0
      obtain ⟨q4, X4, hX4, rfl⟩ := f4
      refine stepR_of rfl ?_
      intro K hK
      go_simp
      refine (HRN.out X hX).mono ?_
      rintro e X5 ⟨u1, rfl, ho, hb⟩
      obtain ⟨A, c, rfl⟩ := ho.opn
      exact hK _ _ hb ⟨A, c, rfl, ho.mono hX.size⟩ (fun _ k hk => ⟨(ho.block k (blks_own (blks_agg3.1 hk))).2, .inl (ho.block k (blks_own (blks_agg3.1 hk))).1⟩) rfl
    · intro X hX
      refine stepR_of rfl ?_
      intro K hK
      go_simp
      exact hK _ _ (below_alloc' X _) ⟨X.heap.size, rfl, hX.size, Blk.new X _ _⟩ (fun _ k hk => by have := blks_ptr hk; subst this; exact ⟨by simp, .inl (Nat.le_refl _)⟩) rfl
  case en =>
    intro X hX v0 f0 v1 f1 v2 f2 v3 f3 v4 f4 v5 f5 v6 f6 hsep
    obtain ⟨X5, hX5, A, cA, rfl, ho5⟩ := f5
    obtain ⟨X6, hX6, b, rfl, hgb, hk⟩ := f6
    have n1 : (Value.slice A xs.length cA).ownBlock ≠ some b := fun e => hsep.get 5 6 rfl rfl (by decide) (blks_agg3.2 (own_blks e)) (ptr_blks _)
    have kb := hk.below hX6 hk.lt
    have ho := ho5.below hX5
    have H2 := Lib.hid (H1.out.go hX)
    have HP2 := Lib.hid (HP1.out.go hX)
    have HF2 : Hid (FrW w0.heap.size (fz c1 w1.heap.size) X (.slice A xs.length cA) xs) := Lib.hid ⟨ho.mono HB1.out.size, fun k e => fz_ge (ho.block k e).1⟩
    have HB2 := Lib.hid (HB1.out.trans (hX.mono HB1.out.size))
    have HQ2 : Hid (FbW (fz c1 w1.heap.size) X b #[.int .i64 0, .int .i64 0, .int .i64 0, .slice none 0 0]) := Lib.hid ⟨kb, fz_ge hgb⟩
    have HN1 := Lib.hid n1
    generalize fz c1 w1.heap.size = c2 at *
    have kc := kb.cell
    have kf := kb.frozen
    have kl := kb.lt
    have hne : p ≠ b := by omega
    have HGB := Lib.hid (show w0.heap.size ≤ b by have := HB1.out.size; omega)
    have HZX := Lib.hid HB2.out.size
    clear hsep f0 f1 f2 f3 f4 ho5 hk ho n1 H1 HP1 HB1 p0 p1 p2 p3 lp g2 lg HRN hX hX5 hX6 hgb
    go_upto_region 4 with fail
    obtain ⟨cs2, hcs2⟩ : ∃ cs2 : Array Value, cs2 = #[.int .i64 r, .int .i64 mf, .int .i64 ms, .slice A xs.length cA] := ⟨_, rfl⟩
    obtain ⟨w3, hw3⟩ : ∃ W, W = (((X.setCell ⟨b, 0, none⟩ (.int .i64 r)).setCell ⟨b, 1, none⟩ (.int .i64 mf)).setCell ⟨b, 2, none⟩ (.int .i64 ms)).setCell ⟨b, 3, none⟩ (.slice A xs.length cA) := ⟨_, rfl⟩
    rw [← hw3]
    have ks : KpS (fun k => k = b) X w3 := by
      rw [hw3]
      exact ((((KpS.refl (fun k => k = b) X).set (p := ⟨b, 0, none⟩) rfl _).set (p := ⟨b, 1, none⟩) rfl _).set (p := ⟨b, 2, none⟩) rfl _).set (p := ⟨b, 3, none⟩) rfl _
    have h3 := H2.out.kps ks (fun k e => by rw [e]; exact HQ2.out.2)
    have hp3 : FbW c2 w3 p cs := ⟨HP2.out.1.kps ks (fun e => hne e), HP2.out.2⟩
    have hf3 : FrW w0.heap.size c2 w3 (.slice A xs.length cA) xs := ⟨HF2.out.1.kps ks (fun k e e2 => HN1.out (by rw [e, e2])), HF2.out.2⟩
    have hq3 : FbW c2 w3 b cs2 := ⟨by rw [hw3, hcs2]; exact (((HQ2.out.1.set_ 0 _).set_ 1 _).set_ 2 _).set_ 3 _, HQ2.out.2⟩
    have hb3 : Below w0.heap.size w0 w3 := HB2.out.trans (ks.toBelow HZX.out fun k hk e => by have := HGB.out; omega)
    clear ks hw3 H2 HP2 HF2 HB2 HQ2 HN1 kc kf kl kb
    have hbd : Below w3.heap.size w3 w3.drew := (Below.refl _ _).drew
    have H4 := Lib.hid (h3.go hbd)
    have HP4 := Lib.hid (hp3.go hbd)
    have HF4 := Lib.hid (hf3.go hbd)
    have HQ4 := Lib.hid (hq3.go hbd)
    have HB4 := Lib.hid (hb3.trans (hbd.mono hb3.size))
    have HCS2 := Lib.hid hcs2
    clear h3 hp3 hf3 hq3 hb3 hcs2
    generalize fz c2 w3.heap.size = c4 at *
    have i4 : Blk w3.drew p 46 cs ∧ Blk w3.drew b 46 cs2 := ⟨HP4.out.1, HQ4.out.1⟩
    refine wp_region_sched (fun X => Blk X p 46 cs ∧ Blk X b 46 cs2) 13 [0, 1, 2, 3, 4, 5, 6, 7, 8, 9, 11, 12] [0, 1, 2, 3, 4, 5, 6, 7, 8, 9, 11, 12, 10] (by kernel_rfl) (by kernel_rfl) i4 ?_
    obtain ⟨w4, hw4⟩ : ∃ W, W = w3.drew := ⟨_, rfl⟩
    rw [← hw4] at H4 HP4 HF4 HQ4 HB4 i4 ⊢
    clear hw4 hbd
    repeat
      apply wpSched_q rfl rfl
      case h =>
        intro w' hI K hK
        have z3 : w'.cell? ⟨p, 3, none⟩ = some (.slice Ax xs.length cx) := (hI.1.cell 3).trans (by rw [HCS.out]; rfl)
        have zl := hI.1.lt
        have y0 : w'.cell? ⟨b, 0, none⟩ = some (.int .i64 r) := (hI.2.cell 0).trans (by rw [HCS2.out]; rfl)
        have y1 : w'.cell? ⟨b, 1, none⟩ = some (.int .i64 mf) := (hI.2.cell 1).trans (by rw [HCS2.out]; rfl)
        have y2 : w'.cell? ⟨b, 2, none⟩ = some (.int .i64 ms) := (hI.2.cell 2).trans (by rw [HCS2.out]; rfl)
        have y3 : w'.cell? ⟨b, 3, none⟩ = some (.slice A xs.length cA) := (hI.2.cell 3).trans (by rw [HCS2.out]; rfl)
        have yl := hI.2.lt
        simp only [quietV, stillV]
        go_simp
        exact hK
      go_simp
    have AK := Lib.hid (impl_add H4.out HF4.out.1 HF4.out.2 r mf ms (by omega))
    refine wpSched_r rfl rfl ?_ i4
    intro K hK hI
    go_simp
    refine AK.out.mono ?_
    rintro e w5 ⟨rfl, vl5, c5, h5, hc5, hk5⟩
    have hb5 : Below w0.heap.size w4 w5 := H4.out.toB hk5 fun k e => by omega
    have i5 : Blk w5 p 46 cs ∧ Blk w5 b 46 cs2 := ⟨HP4.out.1.kps hk5 (fun e => by have := HP4.out.2; omega), HQ4.out.1.kps hk5 (fun e => by have := HQ4.out.2; omega)⟩
    refine hK _ _ i5 ?_
    clear hK K hI
    obtain ⟨L1, hL1⟩ : ∃ L, ls ++ [(⟨r, mf, ms, xs⟩ : Ln)] = L := ⟨_, rfl⟩
    have HL1 : Hid (L1.length = ls.length + 1) := Lib.hid (by rw [← hL1]; simp)
    rw [hL1] at h5
    have HWK := Lib.hid (impl_weaken h5 (HB4.out.trans hb5) HA.out HX.out ls.length (by omega) (by omega) (by have := HL1.out; omega) hse him)
    have HLL : Hid (ls ++ (⟨r, mf, ms, xs⟩ :: wkLs a xs (ls.length + 1) ls.length) = L1 ++ [⟨1, 0, 0, [(4, 0)] ++ xs ++ ([(4, 0)] ++ a ++ xs)⟩, ⟨3, L1.length, ls.length, [(4, 0)] ++ a ++ xs⟩]) := Lib.hid (by
      rw [HL1.out, ← hL1, List.append_assoc]; rfl)
    have HNN : Hid ((ls.length : Int) + 2 = (L1.length : Int) + 1) := Lib.hid (by rw [HL1.out]; push_cast; omega)
    clear i5 i4 hc5 hk5 AK H4 HP4 HF4 HQ4 hL1 h5 hb5
    refine wpSched_nil ?_
    try simp only [List.drop_succ_cons, List.drop_zero, List.drop_nil]
    go_wp2_with fail
    refine HWK.out.mono ?_
    rintro e w6 ⟨rfl, hq⟩
    rw [← HLL.out, ← HNN.out] at hq
    have HQ := Lib.hid hq
    clear hq HWK
    go_wp2
    go_end0
    rw [HMF.out, HMS.out]
    exact ⟨rfl, HQ.out⟩
/- The program's DischargeHypothesis. -/
open Go.RowKit
set_option linter.unusedVariables false
set_option linter.unusedSimpArgs false
/-- the line with number k, whatever it is -/
theorem impl_line {g D : Nat} {c : Nat → Nat} {va vl vs vi vh vP vu : Value} {w0 w : World} {t : List UInt8} {hy : List (List Nd)} {P : List Ln} {a : List Nd} {k : Nat}
    (h : DsM w0.heap.size g c va vl vs vi (pall a ((hy.length : Int) - 1) P k).out (pall a ((hy.length : Int) - 1) P k).se (pall a ((hy.length : Int) - 1) P k).im w) (hb : Below w0.heap.size w0 w) (hD : Blk w0 D 85 #[.string ⟨⟨t⟩⟩, vh, vP, vu])
    (hH : ∃ A c, vh = .slice A hy.length c) (hhl : hy.length ≤ 1048576) (hP : SlL w0 vP P) (hPl : P.length ≤ 200) (hU : UsR w0 vu (flgs P)) (hk : k < P.length) (ha : Sl cN w0 va a) (hla : a.length ≤ 40) (hf : ∀ i (h : i < P.length), fine t hy P i (P[i]'h) = true) :
    Calls Tryz.prog 23 #[.pointer (some ⟨g, 0, none⟩), .pointer (some ⟨D, 0, none⟩), .int .i64 (k : Int)] w fun e w' => e = .returned (.tuple #[]) ∧ ∃ vl' vs' vi' c',
      DsM w0.heap.size g c' va vl' vs' vi' (pall a ((hy.length : Int) - 1) P (k + 1)).out (pall a ((hy.length : Int) - 1) P (k + 1)).se (pall a ((hy.length : Int) - 1) P (k + 1)).im w' ∧ Below w0.heap.size w0 w' := by
  have hxs : ∀ l ∈ P, l.x.length ≤ 40 := fun l hl => by
    obtain ⟨i, hi, rfl⟩ := List.getElem_of_mem hl
    exact fine_len (hf i hi)
  have hfk := hf k hk
  have hfa := flgs_at P k hk
  have hel := flgs_len P
  have hkF : k < (flgs P).length := by rw [hel]; exact hk
  have e1 : (flgs P).getD k false = (flgs P)[k]'hkF := by rw [List.getD_eq_getElem?_getD, List.getElem?_eq_getElem hkF]; rfl
  have e2 : P.getD k ln0 = P[k] := by rw [List.getD_eq_getElem?_getD, List.getElem?_eq_getElem hk]; rfl
  have e3 : pall a ((hy.length : Int) - 1) P (k + 1) = pstep a ((hy.length : Int) - 1) ((flgs P)[k]'hkF) (P.getD (P[k]).s.toNat ln0).x P[k] (pall a ((hy.length : Int) - 1) P k) := by
    rw [pall, e1, e2]
  rw [e3]
  obtain ⟨q1, q2, q3⟩ := pall_len a ((hy.length : Int) - 1) P k
  clear e3
  generalize pall a ((hy.length : Int) - 1) P k = st at *
  have hprm := fine_prm hfk
  have hdp := fine_dep hfk
  rw [← hfa] at hdp
  obtain ⟨l, hl⟩ : ∃ l, P[k] = l := ⟨_, rfl⟩
  rw [hl] at hprm hdp ⊢
  obtain ⟨r, f, s, xs⟩ := l
  cases hem : (flgs P)[k]'hkF with
  | false =>
    have H := impl_line_keep (t := t) (hy := hy) h hb hD hH hhl hP hPl hU hel hk ha hla hxs (by omega) (by omega) (by omega) r f s hl hem (fun x hx => by rw [q1]; exact hprm x hx)
    exact H
  | true =>
    rcases hdp hem with h2 | ⟨h3, h4, h5⟩
    · simp only at h2
      subst h2
      by_cases hfl : f = (hy.length : Int) - 1
      · have H := impl_line_last (t := t) (hy := hy) h hb hD hH hhl hP hPl hU hel hk ha hla hxs (by omega) (by omega) (by omega) f s hl hem hfl
        unfold pstep
        dsimp only
        rw [if_neg (by decide), if_pos rfl, if_pos hfl]
        exact H
      · have H := impl_line_hyp (t := t) (hy := hy) h hb hD hH hhl hP hPl hU hel hk ha hla hxs (by omega) (by omega) (by omega) f s hl hem hfl
        unfold pstep
        dsimp only
        rw [if_neg (by decide), if_pos rfl, if_neg hfl]
        exact H
    · simp only at h3 h4 h5
      subst h3
      obtain ⟨f', rfl, hf'⟩ := inR_nat h4
      obtain ⟨s', rfl, hs'⟩ := inR_nat h5
      have H := impl_line_det (t := t) (hy := hy) h hb hD hH hhl hP hPl hU hel hk ha hla hxs (by omega) (by omega) (by omega) f' s' hl hem (by omega) (by omega) (by omega)
      unfold pstep
      dsimp only
      rw [if_neg (by decide), if_neg (by decide)]
      have g1 : P.getD ((s' : Int)).toNat ln0 = P[s']'(by omega) := by rw [Int.toNat_natCast, List.getD_eq_getElem?_getD, List.getElem?_eq_getElem (by omega)]; rfl
      have g2 : st.im.getD ((f' : Int)).toNat 0 = st.im[f']'(by omega) := by rw [Int.toNat_natCast, List.getD_eq_getElem?_getD, List.getElem?_eq_getElem (by omega)]; rfl
      have g3 : st.im.getD ((s' : Int)).toNat 0 = st.im[s']'(by omega) := by rw [Int.toNat_natCast, List.getD_eq_getElem?_getD, List.getElem?_eq_getElem (by omega)]; rfl
      rw [g1, g2, g3]
      exact H
/-- the code of all, and the lines -/
noncomputable def dhC (t : List UInt8) (hy : List (List Nd)) (P : List Ln) : Int :=
  if hycode t hy ≠ 0 then hycode t hy else if hy.length = 0 then 4 else if plcode t hy P ≠ 0 then plcode t hy P else if longL (disL (hy.getLastD []) ((hy.length : Int) - 1) P) then 3 else 0
noncomputable def dhL (t : List UInt8) (hy : List (List Nd)) (P : List Ln) : List Ln := if dhC t hy P = 0 then disL (hy.getLastD []) ((hy.length : Int) - 1) P else []
/-- a discharger that has no line yet -/
theorem DsM.start (w : World) (va : Value) : DsM w.heap.size w.heap.size (fun k => if k = w.heap.size then 1 else 0) va (.slice none 0 0) (.slice none 0 0) (.slice none 0 0) [] [] [] (w.alloc (.cells #[va, .slice none 0 0, .slice none 0 0, .slice none 0 0] 56)) :=
  ⟨Blk.new w _ _, Nat.le_refl _, if_pos rfl, (fun k hk => if_neg (by omega)), ObC.nil _ _ _ _, Ow.nil _ _, Ow.nil _ _, (fun k e => by cases e), fun k e => by cases e⟩
theorem lastD_at (hy : List (List Nd)) (h : 0 < hy.length) : hy.getLastD [] = hy[hy.length - 1]'(by omega) := by
  cases hy with
  | nil => simp at h
  | cons x l => simp [List.getLastD, List.getLast_eq_getElem]
set_option maxRecDepth 100000 in
set_option maxHeartbeats 4000000 in
theorem impl_DischargeHypothesis (t : List UInt8) (hy : List (List Nd)) (P : List Ln) (vh vP : Value) (w : World) (hT : TabS w) (hH : Sl2 cN w vh hy) (hhl : hy.length ≤ 1048576) (hhy : ∀ xs ∈ hy, xs.length ≤ 1048576) (hP : SlL w vP P) (hPl : P.length ≤ 1048576) (hlx : ∀ l ∈ P, l.x.length ≤ 1048576) :
    Calls Tryz.prog 9 #[.string ⟨⟨t⟩⟩, vh, vP] w fun e w' => ∃ u, e = .returned (.tuple #[u, .int .i64 (dhC t hy P)]) ∧ ObL w.heap.size w'.heap.size w' u (dhL t hy P) ∧ Below w.heap.size w w' := by
  obtain ⟨Ah, ch, rfl⟩ := hH.opn
  obtain ⟨AP, cP', rfl⟩ := hP.opn
  have HC := Lib.hid (impl_hypothesesCode t hy _ w hH hhl hhy)
  have HPR := Lib.hid (fun W (hW : Below w.heap.size w W) => impl_provenLines t hy P (.slice Ah hy.length ch) AP cP' (.slice (some ⟨W.heap.size, 0, none⟩) 1 1) (W.alloc (.cells #[.slice AP P.length cP'] 26)) ((hT.below hW).below (below_alloc' W _)) ((hH.below hW).below (below_alloc' W _)) hhl hhy ((hP.below hW).below (below_alloc' W _)) hlx
    (Ow.lit (K := cH) (e := 26) (B := W.heap.size) (cs := #[.slice AP P.length cP']) (n := 1) [⟨AP, P.length, cP'⟩] rfl rfl (Nat.le_refl _)).sl)
  have HL0 : Hid (dhC t hy P ≠ 0 → dhL t hy P = []) := Lib.hid fun h => by unfold dhL; rw [if_neg h]
  have HH := Lib.hid hH
  have HPP := Lib.hid hP
  clear hH hP hT hlx hhy
  by_cases h1 : hycode t hy = 0
  · rw [h1] at HC
    by_cases h2 : hy.length = 0
    · have HE : Hid (dhC t hy P = 4) := Lib.hid (by unfold dhC; rw [if_neg (by omega), if_pos h2])
      have hb2 : ((hy.length : Int) == 0) = true := by rw [h2]; rfl
      clear h1 h2
      go_enter Tryz.func9, Tryz.ntmps9
      go_wp2_with fail
      refine HC.out.mono ?_
      rintro e w1 ⟨rfl, hb⟩
      have HB := Lib.hid hb
      clear hb
      go_wp2
      refine bodyPost_ret (v := .tuple #[.slice none 0 0, .int .i64 4]) (by simp [results, Tryz.results9, go_sem]) rfl ⟨_, by rw [HE.out], by rw [HL0.out (by rw [HE.out]; decide)]; exact ObL.nil _ _ _, HB.out⟩
    · have hb2 : ((hy.length : Int) == 0) = false := by simpa using h2
      by_cases h3 : plcode t hy P = 0
      · have H1 := Lib.hid h1
        have H2 := Lib.hid h2
        have H3 := Lib.hid h3
        have hF : lnC P.length = true ∧ allFine t hy P = true := by
          unfold plcode at h3
          cases e1 : lnC P.length with
          | false => rw [e1] at h3; simp at h3
          | true =>
            cases e2 : allFine t hy P with
            | false => rw [e1, e2] at h3; simp at h3
            | true => exact ⟨rfl, rfl⟩
        have hall : hy.all isF = true := by
          cases e : hy.all isF with
          | true => rfl
          | false => unfold hycode at h1; rw [e] at h1; split at h1 <;> simp at h1
        have HF : Hid (∀ i (h : i < P.length), fine t hy P i (P[i]'h) = true) := Lib.hid fun i h => by
          have := hF.2
          unfold allFine at this
          rw [List.all_eq_true] at this
          have := this i (List.mem_range.2 h)
          rwa [List.getD_eq_getElem?_getD, List.getElem?_eq_getElem h] at this
        have HP2 : Hid (P.length ≤ 200) := Lib.hid (by have := hF.1; unfold lnC at this; simp only [Bool.and_eq_true, decide_eq_true_eq] at this; exact this.2)
        have hlt : hy.length - 1 < hy.length := by omega
        have HAF : Hid ((hy[hy.length - 1]'hlt).length ≤ 40) := Lib.hid (by
          obtain ⟨g, -, e, hl⟩ := (isF_iff _).1 (List.all_eq_true.1 hall _ (List.getElem_mem hlt))
          rw [e]; exact hl)
        have HLD := Lib.hid (lastD_at hy (by omega))
        have hwr : IntKind.i64.wrap ((hy.length : Int) - 1) = ((hy.length - 1 : Nat) : Int) := by
          rw [IntWalk.i64_in _ ⟨by omega, by omega⟩]; omega
        clear h1 h2 h3 hF hall
        go_enter Tryz.func9, Tryz.ntmps9
        go_wp2_with fail
        refine HC.out.mono ?_
        rintro e w1 ⟨rfl, hb⟩
        have HB := Lib.hid hb
        have HPR1 := Lib.hid (HPR.out w1 hb)
        clear hb
        go_wp2_with fail
        refine HPR1.out.mono ?_
        rintro e w2 ⟨r, rfl, hb2', hD⟩
        rw [H3.out]
        obtain ⟨D, -, hrD, vu, hDb, hDu⟩ := hD H3.out
        obtain ⟨Ar, cr, rfl⟩ := hrD.opn
        obtain ⟨bD, oD, rfl, hbD, hcD⟩ := hrD.cell (k := 0) (by simp)
        have cD : w2.cell? ⟨bD, oD, none⟩ = some (.pointer (some ⟨D, 0, none⟩)) := hcD 0 _ rfl
        have hU : UsR w2 vu (flgs P) := by
          have := UsO.flags (Nat.le_refl P.length) (by rw [List.take_length]; exact hDu)
          rwa [List.take_length] at this
        have hB2 := HB.out.trans (((below_alloc' w1 (.cells #[.slice AP P.length cP'] 26)).trans (hb2'.mono (by simp))).mono HB.out.size)
        obtain ⟨a, ha⟩ : ∃ a, hy[hy.length - 1]'hlt = a := ⟨_, rfl⟩
        obtain ⟨bh, oh, Aa, ca, rfl, hbh, hch, hsa⟩ := (HH.out.below hB2).atM hlt
        have HAF2 := HAF.out
        rw [ha] at hch hsa HAF2
        have HLA : Hid (hy.getLastD [] = a) := Lib.hid (HLD.out.trans ha)
        obtain ⟨m, hm⟩ : ∃ m, hy.length - 1 = m := ⟨_, rfl⟩
        rw [hm] at hch hwr hlt
        have HSA := Lib.hid hsa
        have HU := Lib.hid hU
        have HDb := Lib.hid hDb
        have HP2w := Lib.hid (HPP.out.below hB2)
        have HB2 := Lib.hid hB2
        have HA40 := Lib.hid HAF2
        have hst := Lib.hid (DsM.start w2 (.slice Aa a.length ca))
        have hba := Lib.hid (below_alloc' w2 (.cells #[.slice Aa a.length ca, .slice none 0 0, .slice none 0 0, .slice none 0 0] 56))
        have HW2 : Hid (w.heap.size ≤ w2.heap.size) := Lib.hid hB2.size
        clear hcD hDu hDb hU hB2 ha hsa hm hrD hb2' HAF2 HLD HAF HPR HPR1 HC HPP HH hD
        go_wp2
        go_loopw [44, 11] (fun i _ wr => ∃ k : Nat, k ≤ P.length ∧ i = .int .i64 k ∧ ∃ vl vs vi c, DsM w2.heap.size w2.heap.size c (.slice Aa a.length ca) vl vs vi (pall a ((hy.length : Int) - 1) P k).out (pall a ((hy.length : Int) - 1) P k).se (pall a ((hy.length : Int) - 1) P k).im wr ∧ Below w2.heap.size w2 wr) (fun i _ _ => P.length - (intOf i).toNat)
        case atStart => exact ⟨0, Nat.zero_le _, rfl, _, _, _, _, hst.out, hba.out⟩
        case round =>
          clear hst hba
          obtain ⟨k, hk, rfl, vl, vs, vi, c, hs, hb⟩ := hrel
          have HS := Lib.hid hs
          have HBr := Lib.hid hb
          by_cases hlt2 : k < P.length
          · have cD' : wr.cell? ⟨bD, oD, none⟩ = some (.pointer (some ⟨D, 0, none⟩)) := (hb.cell (p := ⟨bD, oD, none⟩) hbD).trans cD
            have hbD' := Nat.lt_of_lt_of_le hbD hb.size
            have HLN := Lib.hid (impl_line (t := t) (hy := hy) hs hb HDb.out ⟨_, _, rfl⟩ hhl HP2w.out HP2.out HU.out hlt2 HSA.out HA40.out HF.out)
            clear hs hb
            go_wp2_with fail
            refine HLN.out.mono ?_
            rintro e w3 ⟨rfl, vl', vs', vi', c', hs', hb'⟩
            have HS' := Lib.hid hs'
            have HB' := Lib.hid hb'
            clear hs' hb' HLN
            go_wp2
            go_roundw
            case rel => exact ⟨k + 1, by omega, by go_num, _, _, _, _, HS'.out, HB'.out⟩
            case measure => simp [intOf]; omega
          · obtain rfl : k = P.length := by omega
            have g1 := hs.blk.cell 1
            have gl := hs.blk.lt
            obtain ⟨OUT, hO⟩ : ∃ O, (pall a ((hy.length : Int) - 1) P P.length).out = O := ⟨_, rfl⟩
            have HOL : Hid (OUT.length ≤ 1000) := Lib.hid (by rw [← hO]; have := (pall_len a ((hy.length : Int) - 1) P P.length).2.2; have := HP2.out; omega)
            have HOC : Hid (dhC t hy P = if longL OUT = true then 3 else 0) := Lib.hid (by
              unfold dhC disL
              rw [HLA.out, hO, if_neg (by rw [H1.out]; decide), if_neg H2.out, if_neg (by rw [H3.out]; decide)])
            have HOD : Hid (dhC t hy P = 0 → dhL t hy P = OUT) := Lib.hid (fun h => by unfold dhL disL; rw [if_pos h, HLA.out, hO])
            have hol := hs.ln.obL
            rw [hO] at hol
            obtain ⟨Av, cv, rfl⟩ := hol.opn
            have HOB := Lib.hid hol
            have HAY := Lib.hid (fun W (hW : Below wr.heap.size wr W) => impl_anyLong (.slice Av OUT.length cv) OUT W (hol.sl.below hW) (by have := HOL.out; omega))
            have HBw := Lib.hid (HB2.out.trans (HBr.out.mono HW2.out))
            clear hs hb hol hO HS HBr HF HSA HU HDb HP2w
            by_cases h200 : 200 < OUT.length
            · have HE : Hid (dhC t hy P = 3) := Lib.hid (by rw [HOC.out, if_pos (by unfold longL; rw [decide_eq_true h200]; rfl)])
              have h2i : (200 : Int) < (OUT.length : Int) := by omega
              go_wp2
              refine bodyPost_ret (v := .tuple #[.slice none 0 0, .int .i64 3]) (by simp [results, Tryz.results9, go_sem]) rfl ⟨_, by rw [HE.out], by rw [HL0.out (by rw [HE.out]; decide)]; exact ObL.nil _ _ _, HBw.out⟩
            · have h2i : ¬ (200 : Int) < (OUT.length : Int) := by omega
              have HE : Hid (longL OUT = OUT.any fun l => decide (40 < l.x.length)) := Lib.hid (by unfold longL; rw [decide_eq_false h200]; rfl)
              have AY := Lib.hid (HAY.out wr (Below.refl _ _))
              clear HAY h200
              go_wp2_with fail
              refine AY.out.mono ?_
              rintro e w3 ⟨rfl, hb3⟩
              have g3 := (hb3.cell (p := ⟨w2.heap.size, 1, none⟩) gl).trans g1
              have gl3 := Nat.lt_of_lt_of_le gl hb3.size
              have HB3 := Lib.hid (HBw.out.trans (hb3.mono HBw.out.size))
              have HO3 := Lib.hid (((HOB.out.below hb3).mono HW2.out).top hb3.size)
              clear hb3 AY
              rw [← HE.out]
              cases hlg : longL OUT with
              | true =>
                have HE2 : Hid (dhC t hy P = 3) := Lib.hid (by rw [HOC.out, hlg]; rfl)
                clear hlg
                go_wp2
                refine bodyPost_ret (v := .tuple #[.slice none 0 0, .int .i64 3]) (by simp [results, Tryz.results9, go_sem]) rfl ⟨_, by rw [HE2.out], by rw [HL0.out (by rw [HE2.out]; decide)]; exact ObL.nil _ _ _, HB3.out⟩
              | false =>
                have HE2 : Hid (dhC t hy P = 0) := Lib.hid (by rw [HOC.out, hlg]; rfl)
                clear hlg
                go_wp2
                refine bodyPost_ret (v := .tuple #[.slice Av OUT.length cv, .int .i64 0]) (by simp [results, Tryz.results9, go_sem]) rfl ⟨_, by rw [HE2.out], by rw [HOD.out HE2.out]; exact HO3.out, HB3.out⟩
      · have HE : Hid (dhC t hy P = plcode t hy P) := Lib.hid (by unfold dhC; rw [if_neg (by omega), if_neg h2, if_pos h3])
        have HN3 := Lib.hid h3
        generalize plcode t hy P = pc at *
        have hb3 : (pc == 0) = false := by simpa using h3
        clear h1 h2 h3
        go_enter Tryz.func9, Tryz.ntmps9
        go_wp2_with fail
        refine HC.out.mono ?_
        rintro e w1 ⟨rfl, hb⟩
        have HB := Lib.hid hb
        have HPR1 := Lib.hid (HPR.out w1 hb)
        clear hb
        go_wp2_with fail
        refine HPR1.out.mono ?_
        rintro e w2 ⟨r, rfl, hb2', -⟩
        have HB2 := Lib.hid (HB.out.trans (((below_alloc' w1 (.cells #[.slice AP P.length cP'] 26)).trans (hb2'.mono (by simp))).mono HB.out.size))
        clear hb2' HPR1 HPR
        go_wp2
        refine bodyPost_ret (v := .tuple #[.slice none 0 0, .int .i64 pc]) (by simp [results, Tryz.results9, go_sem]) rfl ⟨_, by rw [HE.out], by rw [HL0.out (by rw [HE.out]; exact HN3.out)]; exact ObL.nil _ _ _, HB2.out⟩
  · have HE : Hid (dhC t hy P = hycode t hy) := Lib.hid (by unfold dhC; rw [if_pos h1])
    have HN1 := Lib.hid h1
    generalize hycode t hy = hc at *
    have hb1 : (hc == 0) = false := by simpa using h1
    clear h1
    go_enter Tryz.func9, Tryz.ntmps9
    go_wp2_with fail
    refine HC.out.mono ?_
    rintro e w1 ⟨rfl, hb⟩
    have HB := Lib.hid hb
    clear hb
    go_wp2
    refine bodyPost_ret (v := .tuple #[.slice none 0 0, .int .i64 hc]) (by simp [results, Tryz.results9, go_sem]) rfl ⟨_, by rw [HE.out], by rw [HL0.out (by rw [HE.out]; exact HN1.out)]; exact ObL.nil _ _ _, HB.out⟩
end Go.Proofs.YtcikenffeekkeaaGreatDoor

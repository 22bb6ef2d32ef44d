/- Heyting algebras, of the reference: l19Set, l19Classes, CongruenceOfFilter. -/
import Derived.Test.YtgkogfjifcfkoaaGreatY17
namespace Go.Proofs.YtgkogfjifcfkoaaGreat
open Go.RowKit
set_option linter.unusedVariables false
set_option linter.unusedSimpArgs false
theorem fcd_0 {A O I : List (List Int)} {b t m : Int} (h : fcd A O I b t m = 0) : ∃ (A1 O1 I1 : List (List Nat)) (b1 t1 m1 : Nat), A = lil A1 ∧ O = lil O1 ∧ I = lil I1 ∧ b = b1 ∧ t = t1 ∧ m = m1 ∧ m1 < 2 ^ A1.length ∧ HyT A1 O1 I1 b1 t1 ∧ isFl (ordH A1) m1 := by
  unfold fcd at h
  by_cases h1 : hcd A O I b t m = 0
  · rw [if_pos h1] at h
    obtain ⟨A1, O1, I1, b1, t1, m1, rfl, rfl, rfl, rfl, rfl, rfl, hm, hT⟩ := hcd_0 h1
    rw [nsOf_lil, Int.toNat_natCast] at h
    by_cases h2 : flt (ordH A1) m1 = m1
    · exact ⟨A1, O1, I1, b1, t1, m1, rfl, rfl, rfl, rfl, rfl, rfl, hm, hT, (flt_iff hT.ha (by rw [ordH_length]; exact hm)).1 h2⟩
    · rw [if_neg h2] at h; omega
  · rw [if_neg h1] at h; exact absurd h h1
set_option maxRecDepth 100000 in
theorem spec_l19Set (a o i : Value) (b t m : Int) (A O I : List (List Int)) (w : World) (h : Hy w a o i A O I) (hs : SzH A O I) :
    Calls Tryz.prog 59 #[.agg #[a, o, i, .int .i64 b, .int .i64 t], .int .i64 m] w fun e w' => e = .returned (.int .i64 (fcd A O I b t m)) ∧ Below w.heap.size w w' := by
  obtain ⟨va, ca, rfl⟩ := h.a.opn
  obtain ⟨vo, co, rfl⟩ := h.o.opn
  obtain ⟨vi, ci, rfl⟩ := h.i.opn
  have hb0 := below_alloc' w (.cells #[.slice va A.length ca, .slice vo O.length co, .slice vi I.length ci, .int .i64 b, .int .i64 t] 26)
  have hk0 := Blk.new w 26 #[.slice va A.length ca, .slice vo O.length co, .slice vi I.length ci, .int .i64 b, .int .i64 t]
  have HB := Lib.hid hb0
  have HK0 := Lib.hid hk0
  have IS := Lib.hid (fun W (hW : Below w.heap.size w W) => spec_l19Code _ _ _ b t m A O I W (h.below hW) hs)
  have FI : Hid (hcd A O I b t m = 0 → ∀ W, Below w.heap.size w W → Calls Tryz.prog 102 #[.agg #[.slice va A.length ca, .slice vo O.length co, .slice vi I.length ci, .int .i64 b, .int .i64 t], .int .i64 m] W fun e w' => e = .returned (.bool (decide (flt (nsOf A) m.toNat = m.toNat))) ∧ Below W.heap.size W w') := Lib.hid (fun h0 W hW => by
    obtain ⟨A1, O1, I1, b1, t1, m1, rfl, rfl, rfl, rfl, rfl, rfl, hm, hT⟩ := hcd_0 h0
    rw [nsOf_lil, Int.toNat_natCast]
    exact spec_l19Filter _ _ _ A1 O1 I1 b1 t1 m1 W (h.below hW) hT hm)
  have E1 : Hid (hcd A O I b t m ≠ 0 → fcd A O I b t m = hcd A O I b t m) := Lib.hid (fun hh => by unfold fcd; rw [if_neg hh])
  have E2 : Hid (hcd A O I b t m = 0 → flt (nsOf A) m.toNat = m.toNat → fcd A O I b t m = 0) := Lib.hid (fun hh h2 => by unfold fcd; rw [if_pos hh, if_pos h2])
  have E3 : Hid (hcd A O I b t m = 0 → ¬ flt (nsOf A) m.toNat = m.toNat → fcd A O I b t m = 5) := Lib.hid (fun hh h2 => by unfold fcd; rw [if_pos hh, if_neg h2])
  clear hb0 hk0 h hs
  go_enter Tryz.func59, Tryz.ntmps59
  go_upto_region 1 with fail
  generalize World.alloc w _ = W at *
  have k0 := HK0.out.cell
  have l0 := HK0.out.lt
  go_wp2_with fail
  refine (IS.out _ HB.out).mono ?_
  rintro e w1 ⟨rfl, hb⟩
  have HB1 := Lib.hid (bthen HB.out hb)
  have J0 := Lib.hid (HK0.out.below hb l0)
  clear k0 l0 hb IS
  by_cases e1 : hcd A O I b t m = 0
  · have F1 := Lib.hid (FI.out e1)
    have F2 := Lib.hid (E2.out e1)
    have F3 := Lib.hid (E3.out e1)
    rw [e1]
    clear e1 FI E1 E2 E3
    have k0 := J0.out.cell
    have l0 := J0.out.lt
    go_wp2_with fail
    refine (F1.out _ HB1.out).mono ?_
    rintro e w2 ⟨rfl, hb⟩
    have HB2 := Lib.hid (bthen HB1.out hb)
    clear k0 l0 hb
    by_cases e2 : flt (nsOf A) m.toNat = m.toNat
    · have E := Lib.hid (F2.out e2)
      rw [decide_eq_true e2]
      clear e2
      go_wp2
      go_ret
      exact ⟨by rw [E.out]; rfl, HB2.out⟩
    · have E := Lib.hid (F3.out e2)
      rw [decide_eq_false e2]
      clear e2
      go_wp2
      go_ret
      exact ⟨by rw [E.out]; rfl, HB2.out⟩
  · have E := Lib.hid (E1.out e1)
    have q1 : (hcd A O I b t m == 0) = false := beq_eq_false_iff_ne.2 e1
    clear e1 FI E1 E2 E3
    generalize hcd A O I b t m = z at *
    go_wp2
    go_ret
    exact ⟨by rw [E.out]; rfl, HB1.out⟩
set_option maxHeartbeats 2000000 in
set_option maxRecDepth 100000 in
theorem spec_l19Classes (a o i : Value) (A O I : List (List Nat)) (b t m : Nat) (w : World) (h : Hy w a o i (lil A) (lil O) (lil I)) (hT : HyT A O I b t) (hm : m < 2 ^ A.length) (hf : isFl (ordH A) m) :
    Calls Tryz.prog 60 #[.agg #[a, o, i, .int .i64 (b : Int), .int .i64 (t : Int)], .int .i64 (m : Int)] w fun e w' => ∃ u, e = .returned u ∧ Ow cI 2 w.heap.size w' u (li (ccl (ordH A) m A.length).1) ∧ Below w.heap.size w w' := by
  obtain ⟨va, ca, rfl⟩ := h.a.opn
  obtain ⟨vo, co, rfl⟩ := h.o.opn
  obtain ⟨vi, ci, rfl⟩ := h.i.opn
  have LL := Lib.hid (lil_length A)
  have LI := Lib.hid (show (lil I).length = A.length by rw [lil_length, hT.tI.l])
  have h30 := hT.n30
  have hm2 := Nat.lt_of_lt_of_le hm (two_pow_30 h30)
  have HH := Lib.hid (fun W (hW : Below w.heap.size w W) => h.a.below hW)
  have HI := Lib.hid (fun W (hW : Below w.heap.size w W) => h.i.below hW)
  rw [LL.out] at HH
  rw [LI.out] at HI
  rw [LL.out, LI.out]
  generalize (lil O).length = no at *
  have hb0 := below_alloc' w (.cells #[.slice va A.length ca, .slice vo no co, .slice vi A.length ci, .int .i64 (b : Int), .int .i64 (t : Int)] 26)
  have hk0 := Blk.new w 26 #[.slice va A.length ca, .slice vo no co, .slice vi A.length ci, .int .i64 (b : Int), .int .i64 (t : Int)]
  have HB := Lib.hid hb0
  have HK0 := Lib.hid hk0
  have hm' : m < 2 ^ (ordH A).length := by rw [ordH_length]; exact hm
  have SZ := Lib.hid (fun W (hW : Below w.heap.size w W) => LL.out ▸ spec_l18Size (.slice va A.length ca) (.slice vo no co) (.slice vi A.length ci) b t (lil A) W (HH.out W hW))
  have CK := Lib.hid (fun x y (hx : x < A.length) (hy : y < x) h1 h2 => cls_known hT.ha hm' hf (x := x) (y := y) (by rw [ordH_length]; exact hx) hy h1 h2)
  have CN := Lib.hid (fun x (hx : x < A.length) h2 => cls_new hT.ha hm' hf (x := x) (by rw [ordH_length]; exact hx) h2)
  have CL := Lib.hid (fun x => show (li (ccl (ordH A) m x).1).length = x by rw [li_length, ccl_length])
  have CB := Lib.hid (fun x => show (ccl (ordH A) m x).2 ≤ x from dvd_count _ _)
  have RE : Hid (∀ x y, x < A.length → y < A.length → rlt (ordH A) m x y = (m.testBit (ent I x y) && m.testBit (ent I y x))) := Lib.hid (fun x y hx hy => by unfold rlt; rw [hT.eI x y hx hy, hT.eI y x hy hx, Int.toNat_natCast, Int.toNat_natCast])
  have TI := Lib.hid hT.tI
  clear hb0 hk0 h hT hf hm hm'
  go_enter Tryz.func60, Tryz.ntmps60
  go_upto_region 1 with fail
  generalize World.alloc w _ = w1 at *
  go_wp2
  go_loopw [5, 6, 7] (fun v c i wr => ∃ x : Nat, x ≤ A.length ∧ i = .int .i64 x ∧ c = .int .i64 ((ccl (ordH A) m x).2 : Nat) ∧ Ow cI 2 w1.heap.size wr v (li (ccl (ordH A) m x).1) ∧ Below w1.heap.size w1 wr) (fun _ _ i _ => A.length - (intOf i).toNat)
  case atStart => exact ⟨0, Nat.zero_le _, rfl, rfl, Ow.lit (K := cI) [] rfl rfl (Nat.le_refl _), below_alloc' _ _⟩
  case round =>
    obtain ⟨x, hx, rfl, rfl, ho, hb⟩ := hrel
    obtain ⟨w2, hw2⟩ : ∃ W, W = wr := ⟨_, rfl⟩
    subst hw2
    obtain ⟨A2, c2, rfl⟩ := ho.opn
    have HLx := Lib.hid (CL.out x)
    rw [HLx.out] at ho ⊢
    have O2 := Lib.hid ho
    have B2 := Lib.hid hb
    have T2 := Lib.hid (HK0.out.below hb HK0.out.lt)
    have t2c := T2.out.cell
    have t2s := T2.out.lt
    clear ho hb
    have hcx := CB.out x
    go_wp2_with fail
    clear t2c t2s
    refine (SZ.out _ (bthen HB.out B2.out)).mono ?_
    rintro e w3 ⟨rfl, hb⟩
    have O3 := Lib.hid (O2.out.below hb)
    have B3 := Lib.hid (bthen B2.out hb)
    have T3 := Lib.hid (T2.out.below hb T2.out.lt)
    clear hb O2 B2 T2
    by_cases hlt : x < A.length
    · go_wp2
      go_loopw [8, 9] (fun own i wr => ∃ y : Nat, y ≤ x ∧ i = .int .i64 y ∧ ((own = .int .i64 (-1) ∧ ∀ z, z < y → rlt (ordH A) m x z = false) ∨ (∃ z, y = z + 1 ∧ rlt (ordH A) m x z = true ∧ (∀ z', z' < z → rlt (ordH A) m x z' = false) ∧ own = .int .i64 ((ccl (ordH A) m x).1.getD z 0 : Nat))) ∧ Below w3.heap.size w3 wr) (fun _ i _ => x - (intOf i).toNat)
      case atStart => exact ⟨0, Nat.zero_le _, rfl, .inl ⟨rfl, fun z hz => absurd hz (Nat.not_lt_zero _)⟩, Below.refl _ _⟩
      case round =>
        obtain ⟨y, hy, rfl, hown, hb⟩ := hrel
        obtain ⟨w4, hw4⟩ : ∃ W, W = wr := ⟨_, rfl⟩
        subst hw4
        have B4 := Lib.hid hb
        have O4 := Lib.hid (O3.out.below hb)
        have T4 := Lib.hid (T3.out.below hb T3.out.lt)
        clear hb
        have END : Hid (∀ (c d : Nat) (hcd : ccl (ordH A) m (x + 1) = ((ccl (ordH A) m x).1 ++ [c], d)), li (ccl (ordH A) m (x + 1)).1 = li (ccl (ordH A) m x).1 ++ [(c : Int)] ∧ (ccl (ordH A) m (x + 1)).2 = d) := Lib.hid (fun c d hcd => by rw [hcd]; exact ⟨by rw [li_snocP], rfl⟩)
        rcases hown with ⟨rfl, hno⟩ | ⟨z, rfl, hz1, hz2, rfl⟩
        · by_cases hlt2 : y < x
          · have HNo := Lib.hid hno
            have hre := RE.out x y hlt (by omega)
            have HNx : Hid (rlt (ordH A) m x y = false → ∀ z, z < y + 1 → rlt (ordH A) m x z = false) := Lib.hid (fun hk z hz => by
              rcases Nat.lt_or_ge z y with h1 | h1
              · exact HNo.out z h1
              · obtain rfl : z = y := by omega
                exact hk)
            obtain ⟨b1, o1, d1, q1, cj1, e4, hb3, hc3, hd3, hc4⟩ := ent_at (HI.out _ (bthen HB.out (bthen B3.out B4.out))) TI.out hlt (show y < A.length by omega)
            obtain ⟨b2, o2, d2, q2, cj2, e5, hb5, hc5, hd5, hc6⟩ := ent_at (HI.out _ (bthen HB.out (bthen B3.out B4.out))) TI.out (show y < A.length by omega) hlt
            subst e4
            injection e5 with e5
            injection e5 with e5 e6
            subst e5; subst e6
            have h1 := TI.out.ent_lt hlt (show y < A.length by omega)
            have h2 := TI.out.ent_lt (show y < A.length by omega) hlt
            have HRE := Lib.hid hre
            generalize ent I x y = z1 at *
            generalize ent I y x = z2 at *
            have t4c := T4.out.cell
            have t4s := T4.out.lt
            clear hno hre
            go_wp2_with fail
            refine (spec_l01Bit m z1 _ (by omega) (by omega)).mono ?_
            rintro e _ ⟨rfl, rfl⟩
            cases e1 : m.testBit z1
            · have E := Lib.hid (HNx.out (by rw [HRE.out, e1]; rfl))
              clear e1
              go_wp2
              exact ⟨⟨y + 1, by omega, by go_num, .inl ⟨rfl, E.out⟩, B4.out⟩, by simp [intOf]; omega⟩
            · rw [e1, Bool.true_and] at HRE
              clear e1
              go_wp2_with fail
              refine (spec_l01Bit m z2 _ (by omega) (by omega)).mono ?_
              rintro e _ ⟨rfl, rfl⟩
              cases e1 : m.testBit z2
              · have E := Lib.hid (HNx.out (by rw [HRE.out, e1]))
                clear e1
                go_wp2
                exact ⟨⟨y + 1, by omega, by go_num, .inl ⟨rfl, E.out⟩, B4.out⟩, by simp [intOf]; omega⟩
              · have E : Hid (rlt (ordH A) m x y = true) := Lib.hid (by rw [HRE.out, e1])
                clear e1
                obtain ⟨b7, o7, e7, hb7, hc7⟩ := O4.out.sl.atI (k := y) (by rw [HLx.out]; exact hlt2)
                subst e7
                rw [li_get] at hc7
                obtain ⟨cy, hcy⟩ : ∃ cy, (ccl (ordH A) m x).1.getD y 0 = cy := ⟨_, rfl⟩
                rw [hcy] at hc7
                have HCY := Lib.hid hcy
                clear hcy
                go_wp2
                exact ⟨⟨y + 1, by omega, by go_num, .inr ⟨y, rfl, E.out, HNo.out, by rw [HCY.out]⟩, B4.out⟩, by simp [intOf]; omega⟩
          · obtain rfl : y = x := by omega
            have E := Lib.hid (END.out _ _ (CN.out y hlt hno))
            have B5 := Lib.hid (bthen B3.out B4.out)
            have hz5 := B5.out.size
            clear hno
            generalize li (ccl (ordH A) m y).1 = L at *
            generalize (ccl (ordH A) m y).2 = cc at *
            go_wp2_with (at_builtin; refine stopHere ?_)
            refine goHere ?_
            refine ap_one (K := cI) _ ty_int64 rfl _ _ rfl (B := w1.heap.size) (v := .slice A2 y c2) (xs := L) rfl O4.out (cc : Int) rfl rfl (by have := HLx.out; omega) hz5 ?_
            intro v1 w7 ho1 hg1 hb1 hat1
            have O5 := Lib.hid ho1
            have B6 := Lib.hid (B5.out.trans hb1)
            clear ho1 hg1 hb1 hat1
            go_wp2
            exact ⟨⟨y + 1, by omega, by go_num, by rw [E.out.2]; go_num, by rw [E.out.1]; exact O5.out, B6.out⟩, by simp [intOf]; omega⟩
        · have E := Lib.hid (END.out _ _ (CK.out x z hlt (by omega) hz1 hz2))
          have B5 := Lib.hid (bthen B3.out B4.out)
          have hz5 := B5.out.size
          clear hz1 hz2
          generalize (ccl (ordH A) m x).1.getD z 0 = cz at *
          generalize li (ccl (ordH A) m x).1 = L at *
          generalize (ccl (ordH A) m x).2 = cc at *
          have nn : decide ((cz : Int) < 0) = false := decide_eq_false (by omega)
          go_wp2_with (at_builtin; refine stopHere ?_)
          refine goHere ?_
          refine ap_one (K := cI) _ ty_int64 rfl _ _ rfl (B := w1.heap.size) (v := .slice A2 x c2) (xs := L) rfl O4.out (cz : Int) rfl rfl (by have := HLx.out; omega) hz5 ?_
          intro v1 w7 ho1 hg1 hb1 hat1
          have O5 := Lib.hid ho1
          have B6 := Lib.hid (B5.out.trans hb1)
          clear ho1 hg1 hb1 hat1
          go_wp2
          exact ⟨⟨x + 1, by omega, by go_num, by rw [E.out.2], by rw [E.out.1]; exact O5.out, B6.out⟩, by simp [intOf]; omega⟩
    · obtain rfl : x = A.length := by omega
      go_wp2
      go_ret
      exact ⟨_, rfl, O3.out.mono HB.out.size, bthen HB.out B3.out⟩
end Go.Proofs.YtgkogfjifcfkoaaGreat

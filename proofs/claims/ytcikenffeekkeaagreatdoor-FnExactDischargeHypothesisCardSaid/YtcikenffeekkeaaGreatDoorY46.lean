/- Joined of several texts. -/
import Derived.Test.YtcikenffeekkeaaGreatDoorY45
import Derived.Test.YtcikenffeekkeaaGreatDoorY37
namespace Go.Proofs.YtcikenffeekkeaaGreatDoor
/- The discharger: a line renumbered. -/
open Go.RowKit
set_option linter.unusedVariables false
set_option linter.unusedSimpArgs false
set_option maxRecDepth 100000 in
set_option maxHeartbeats 2000000 in
theorem impl_renumbered (l : Ln) (v u : Value) (T : List Int) (w : World) (hv : Sl cN w v l.x) (hu : Sl cI w u T) (hP : ∀ x ∈ prmL l, ∃ i : Nat, x = i ∧ i < T.length) (hl : l.x.length ≤ 1048576) (hlT : T.length ≤ 1048576) :
    Calls Tryz.prog 46 #[.agg #[.int .i64 l.r, .int .i64 l.f, .int .i64 l.s, v], u] w fun e w' => ∃ r, e = .returned (.agg #[.int .i64 l.r, .int .i64 (mvf T l), .int .i64 (mvs T l), r]) ∧ Ow cN 75 w.heap.size w' r l.x ∧ Below w.heap.size w w' := by
  obtain ⟨A, c, rfl⟩ := hv.opn
  obtain ⟨A', c', rfl⟩ := hu.opn
  have hb1 := below_alloc' w (.cells #[.int .i64 l.r, .int .i64 l.f, .int .i64 l.s, .slice A l.x.length c] 46)
  have hk1 := Blk.new w 46 #[.int .i64 l.r, .int .i64 l.f, .int .i64 l.s, .slice A l.x.length c]
  have hk2 := Blk.new (w.alloc (.cells #[.int .i64 l.r, .int .i64 l.f, .int .i64 l.s, .slice A l.x.length c] 46)) 46 #[.int .i64 0, .int .i64 0, .int .i64 0, .slice none 0 0]
  have hb2 := below_alloc' (w.alloc (.cells #[.int .i64 l.r, .int .i64 l.f, .int .i64 l.s, .slice A l.x.length c] 46)) (.cells #[.int .i64 0, .int .i64 0, .int .i64 0, .slice none 0 0] 46)
  have hk1' := hk1.below hb2 hk1.lt
  have hbb := hb1.trans (hb2.mono hb1.size)
  have hz : (w.alloc (.cells #[.int .i64 l.r, .int .i64 l.f, .int .i64 l.s, .slice A l.x.length c] 46)).heap.size = w.heap.size + 1 := by simp
  rw [hz] at hk2
  have HV := Lib.hid (hv.below hbb)
  have HU := Lib.hid (hu.below hbb)
  have hu0 := hu
  have HP := Lib.hid hP
  clear hv hu hP hb1 hk1 hb2 hz
  go_enter Tryz.func46, Tryz.ntmps46
  go_upto_region 1 with fail
  obtain ⟨W, hW⟩ : ∃ X, X = (w.alloc (.cells #[.int .i64 l.r, .int .i64 l.f, .int .i64 l.s, .slice A l.x.length c] 46)).alloc (.cells #[.int .i64 0, .int .i64 0, .int .i64 0, .slice none 0 0] 46) := ⟨_, rfl⟩
  rw [← hW] at HV HU hk1' hk2 hbb ⊢
  clear hW
  obtain ⟨p, hp⟩ : ∃ p, w.heap.size = p := ⟨_, rfl⟩
  have HPW : Hid (w.heap.size = p) := Lib.hid hp
  rw [hp] at hk1' hk2 hbb ⊢
  clear hp
  have HK1 := Lib.hid hk1'
  have HK2 := Lib.hid hk2
  have HBB := Lib.hid hbb
  have k3 := hk1'.cell 3
  have l1 := hk1'.lt
  clear hk1' hk2 hbb
  go_wp2_with fail
  refine (impl_clone _ l.x W HV.out hl).mono ?_
  rintro e w1 ⟨r, rfl, ho, hb⟩
  have HO := Lib.hid ho
  obtain ⟨Ar, cr, rfl⟩ := ho.opn
  have HB1 := Lib.hid hb
  have HC1 := Lib.hid (HK1.out.below hb HK1.out.lt)
  have HC2 := Lib.hid (HK2.out.below hb HK2.out.lt)
  have HD1 := Lib.hid (HC1.out.set_ 3 (.slice Ar l.x.length cr))
  clear ho hb k3 l1
  have f3 := HC1.out.frozen 3
  have d3 := HC1.out.cell 3
  have e0 := HD1.out.cell 0
  have e1 := HD1.out.cell 1
  have e2 := HD1.out.cell 2
  have e3 := HD1.out.cell 3
  have el := HD1.out.lt
  have dl := HC1.out.lt
  go_wp2_with fail
  obtain ⟨w2, hw2⟩ : ∃ X, X = w1.setCell ⟨p, 3, none⟩ (.slice Ar l.x.length cr) := ⟨_, rfl⟩
  have hB2 : Below p w w2 := by rw [hw2]; exact (HBB.out.trans (HB1.out.mono (by have := HK1.out.lt; omega))).setCell (p := ⟨p, 3, none⟩) (Nat.le_refl _) _
  have hO2 : Ow cN 75 p w2 (.slice Ar l.x.length cr) l.x := by
    rw [hw2]
    exact (HO.out.far (p := ⟨p, 3, none⟩) (fun e => by have h5 : W.heap.size ≤ p := (HO.out.block _ e).1; have := HK1.out.lt; omega) _).mono (by have := HK1.out.lt; omega)
  have hN2 : (Value.slice Ar l.x.length cr).ownBlock ≠ some p ∧ (Value.slice Ar l.x.length cr).ownBlock ≠ some (p + 1) := ⟨fun e => by have := (HO.out.block _ e).1; have := HK1.out.lt; omega, fun e => by have := (HO.out.block _ e).1; have := HK2.out.lt; omega⟩
  have hU2 : Sl cI w2 (.slice A' T.length c') T := hu0.below (by rw [HPW.out]; exact hB2)
  have hC2 : Blk w2 (p + 1) 46 #[.int .i64 0, .int .i64 0, .int .i64 0, .slice none 0 0] := by rw [hw2]; exact HC2.out.far (by simp) _
  rw [← hw2] at HD1 ⊢
  have HB2 := Lib.hid hB2
  have HO2 := Lib.hid hO2
  have HN2 := Lib.hid hN2
  have HU2 := Lib.hid hU2
  have HC3 := Lib.hid hC2
  clear hB2 hO2 hN2 hU2 hC2 HC1 HC2 HO HB1 HK1 HK2 HU HV HBB d3 f3 e0 e1 e2 e3 el dl hw2 hu0
  refine (impl_premises l _ w2).mono ?_
  rintro e w3 ⟨rp, rfl, hop, hb3⟩
  have hpl := prmL_len l
  have HI := Lib.hid (impl_imagesOf rp _ (prmL l) T w3 hop.sl (HU2.out.below hb3) HP.out (by omega) hlT)
  obtain ⟨Ap, cp, rfl⟩ := hop.opn
  have HB3 := Lib.hid hb3
  clear hop hb3 hpl
  go_wp2_with fail
  refine HI.out.mono ?_
  rintro e w4 ⟨rm, rfl, hom, hb4⟩
  have hb24 := HB3.out.trans (hb4.mono HB3.out.size)
  have HD := Lib.hid (HD1.out.below hb24 HD1.out.lt)
  have HE := Lib.hid (HC3.out.below hb24 HC3.out.lt)
  have HO4 := Lib.hid (HO2.out.below hb24)
  have HB4 := Lib.hid (HB2.out.trans (hb24.mono (by have := HD1.out.lt; omega)))
  have HM := Lib.hid hom.sl
  have HMO := Lib.hid hom
  have HSZ := Lib.hid (show p + 1 < w3.heap.size by have := HC3.out.lt; have := HB3.out.size; omega)
  clear hom hb4 hb24 HI
  have d0 := HD.out.cell 0
  have d1 := HD.out.cell 1
  have d2 := HD.out.cell 2
  have d3 := HD.out.cell 3
  have g1 := HD.out.frozen 1
  have g2 := HD.out.frozen 2
  have dl := HD.out.lt
  have hfin : ∀ (w9 : World) (x y : Int), KpS (fun k => k = p ∨ k = p + 1) w4 w9 → x = mvf T l → y = mvs T l → ∃ r, Ending.returned (.agg #[.int .i64 l.r, .int .i64 x, .int .i64 y, .slice Ar l.x.length cr]) = .returned (.agg #[.int .i64 l.r, .int .i64 (mvf T l), .int .i64 (mvs T l), r]) ∧ Ow cN 75 p w9 r l.x ∧ Below p w w9 := by
    intro w9 x y hk e1 e2
    refine ⟨_, by rw [e1, e2], HO4.out.kps hk (fun k e e2 => by rcases e2 with rfl | rfl; exact HN2.out.1 e; exact HN2.out.2 e), HB4.out.trans (hk.toBelow (by omega) fun k e e2 => by omega)⟩
  by_cases h3 : l.r = 3
  · have hq : imgs T (prmL l) = [mvf T l, mvs T l] := by unfold imgs prmL mvf mvs; rw [if_pos h3, if_pos (.inl h3), if_pos h3]; rfl
    rw [hq] at HM HMO
    obtain ⟨b, o, hA, hbl, hc⟩ : ∃ b o, rm.ownBlock = some b ∧ b < w4.heap.size ∧ rm = .slice (some ⟨b, 0, none⟩) 2 o ∧ w3.heap.size ≤ b := by
      obtain ⟨g', c9, e, h1, h2, -⟩ := HMO.out.form (by simp)
      subst e
      exact ⟨g', c9, rfl, h2, rfl, h1⟩
    obtain ⟨rfl, hwb⟩ := hc
    obtain ⟨b', o', e', -, hc'⟩ := HM.out.cell (k := 0) (by simp)
    obtain ⟨b'', o'', e'', -, hc''⟩ := HM.out.cell (k := 1) (by simp)
    injection e' with e'
    injection e' with q1 q2
    injection e'' with e''
    injection e'' with q3 q4
    subst q1 q2 q3 q4
    have m0 : w4.cell? ⟨b, 0, none⟩ = some (.int .i64 (mvf T l)) := hc' 0 _ rfl
    have m1 : w4.cell? ⟨b, 1, none⟩ = some (.int .i64 (mvs T l)) := hc'' 0 _ rfl
    clear hc' hc'' hA hq
    obtain ⟨x, hx⟩ : ∃ x, mvf T l = x := ⟨_, rfl⟩
    obtain ⟨y, hy⟩ : ∃ y, mvs T l = y := ⟨_, rfl⟩
    rw [hx] at m0 HM HMO
    rw [hy] at m1 HM HMO
    have HX := Lib.hid hx.symm
    have HY := Lib.hid hy.symm
    have HF := Lib.hid hfin
    clear hx hy hfin
    have HS1 := Lib.hid (HD.out.set_ 1 (.int .i64 x))
    have ks1 := (KpS.refl (fun k => k = p) w4).set (p := ⟨p, 1, none⟩) rfl (.int .i64 x)
    have m1' : (w4.setCell ⟨p, 1, none⟩ (.int .i64 x)).cell? ⟨b, 1, none⟩ = some (.int .i64 y) := (ks1.cell (p := ⟨b, 1, none⟩) hbl (by have := HSZ.out; show ¬ b = p; omega)).trans m1
    have s2 := HS1.out.cell 2
    have z2 := HS1.out.frozen 2
    have sl := HS1.out.lt
    have bl1 : b < (w4.setCell ⟨p, 1, none⟩ (.int .i64 x)).heap.size := by simpa using hbl
    have HK6 : Hid (KpS (fun k => k = p ∨ k = p + 1) w4 ((w4.setCell ⟨p, 1, none⟩ (.int .i64 x)).setCell ⟨p, 2, none⟩ (.int .i64 y))) := Lib.hid ((KpS.mono ks1 fun k e => .inl e).set (p := ⟨p, 2, none⟩) (.inl rfl) _)
    have HS2 := Lib.hid (HS1.out.set_ 2 (.int .i64 y))
    have HE2 := Lib.hid ((HE.out.far (p := ⟨p, 1, none⟩) (by simp) (.int .i64 x)).far (p := ⟨p, 2, none⟩) (by simp) (.int .i64 y))
    clear ks1 h3
    go_upto_region 7 with fail
    obtain ⟨w5, hw5⟩ : ∃ X, X = (w4.setCell ⟨p, 1, none⟩ (.int .i64 x)).setCell ⟨p, 2, none⟩ (.int .i64 y) := ⟨_, rfl⟩
    rw [← hw5] at HK6 HS2 HE2 ⊢
    clear hw5 m1' s2 z2 sl bl1 m0 m1 d0 d1 d2 d3 g1 g2 dl
    have t0 := HS2.out.cell 0
    have t1 := HS2.out.cell 1
    have t2 := HS2.out.cell 2
    have t3 := HS2.out.cell 3
    have tl := HS2.out.lt
    have u0 := HE2.out.frozen 0
    have u1 := HE2.out.frozen 1
    have u2 := HE2.out.frozen 2
    have u3 := HE2.out.frozen 3
    have c0 := HE2.out.cell 0
    have c1 := HE2.out.cell 1
    have c2 := HE2.out.cell 2
    have c3 := HE2.out.cell 3
    have ul := HE2.out.lt
    have HE6 := (((HE2.out.set_ 0 (.int .i64 l.r)).set_ 1 (.int .i64 x)).set_ 2 (.int .i64 y)).set_ 3 (.slice Ar l.x.length cr)
    have v0 := HE6.cell 0
    have v1 := HE6.cell 1
    have v2 := HE6.cell 2
    have v3 := HE6.cell 3
    have vl := HE6.lt
    have HK9 := Lib.hid ((((HK6.out.set (p := ⟨p + 1, 0, none⟩) (.inr rfl) (.int .i64 l.r)).set (p := ⟨p + 1, 1, none⟩) (.inr rfl) (.int .i64 x)).set (p := ⟨p + 1, 2, none⟩) (.inr rfl) (.int .i64 y)).set (p := ⟨p + 1, 3, none⟩) (.inr rfl) (.slice Ar l.x.length cr))
    clear HE6
    go_wp2
    have HFF := HF.out _ x y HK9.out HX.out HY.out
    rw [← HPW.out] at HFF v0 v1 v2 v3 vl ⊢
    exact bodyPost_ret (v := .agg #[.int .i64 l.r, .int .i64 x, .int .i64 y, .slice Ar l.x.length cr]) (by simp [results, Tryz.results46, go_sem, v0, v1, v2, v3, vl]) rfl HFF
  by_cases h4 : l.r = 4
  · have hq : imgs T (prmL l) = [mvf T l] := by unfold imgs prmL mvf; rw [if_neg h3, if_pos h4, if_pos (.inr h4)]; rfl
    have hs : mvs T l = l.s := by unfold mvs; rw [if_neg h3]
    rw [hq] at HM HMO
    obtain ⟨b, o, hA, hbl, hc⟩ : ∃ b o, rm.ownBlock = some b ∧ b < w4.heap.size ∧ rm = .slice (some ⟨b, 0, none⟩) 1 o ∧ w3.heap.size ≤ b := by
      obtain ⟨g', c9, e, h1, h2, -⟩ := HMO.out.form (by simp)
      subst e
      exact ⟨g', c9, rfl, h2, rfl, h1⟩
    obtain ⟨rfl, hwb⟩ := hc
    obtain ⟨b', o', e', -, hc'⟩ := HM.out.cell (k := 0) (by simp)
    injection e' with e'
    injection e' with q1 q2
    subst q1 q2
    have m0 : w4.cell? ⟨b, 0, none⟩ = some (.int .i64 (mvf T l)) := hc' 0 _ rfl
    clear hc' hA hq
    obtain ⟨x, hx⟩ : ∃ x, mvf T l = x := ⟨_, rfl⟩
    rw [hx] at m0 HM HMO
    have HX := Lib.hid hx.symm
    have HY := Lib.hid hs.symm
    have HF := Lib.hid hfin
    clear hx hs hfin
    have HS1 := Lib.hid (HD.out.set_ 1 (.int .i64 x))
    have ks1 := (KpS.refl (fun k => k = p) w4).set (p := ⟨p, 1, none⟩) rfl (.int .i64 x)
    have HK6 : Hid (KpS (fun k => k = p ∨ k = p + 1) w4 (w4.setCell ⟨p, 1, none⟩ (.int .i64 x))) := Lib.hid (KpS.mono ks1 fun k e => .inl e)
    have HS2 := HS1
    have HE2 := Lib.hid (HE.out.far (p := ⟨p, 1, none⟩) (by simp) (.int .i64 x))
    clear ks1 h3 h4 HS1
    go_upto_region 7 with fail
    obtain ⟨w5, hw5⟩ : ∃ X, X = w4.setCell ⟨p, 1, none⟩ (.int .i64 x) := ⟨_, rfl⟩
    rw [← hw5] at HK6 HS2 HE2 ⊢
    clear hw5 m0 d0 d1 d2 d3 g1 g2 dl
    have t0 := HS2.out.cell 0
    have t1 := HS2.out.cell 1
    have t2 := HS2.out.cell 2
    have t3 := HS2.out.cell 3
    have tl := HS2.out.lt
    have u0 := HE2.out.frozen 0
    have u1 := HE2.out.frozen 1
    have u2 := HE2.out.frozen 2
    have u3 := HE2.out.frozen 3
    have c0 := HE2.out.cell 0
    have c1 := HE2.out.cell 1
    have c2 := HE2.out.cell 2
    have c3 := HE2.out.cell 3
    have ul := HE2.out.lt
    have HE6 := (((HE2.out.set_ 0 (.int .i64 l.r)).set_ 1 (.int .i64 x)).set_ 2 (.int .i64 l.s)).set_ 3 (.slice Ar l.x.length cr)
    have v0 := HE6.cell 0
    have v1 := HE6.cell 1
    have v2 := HE6.cell 2
    have v3 := HE6.cell 3
    have vl := HE6.lt
    have HK9 := Lib.hid ((((HK6.out.set (p := ⟨p + 1, 0, none⟩) (.inr rfl) (.int .i64 l.r)).set (p := ⟨p + 1, 1, none⟩) (.inr rfl) (.int .i64 x)).set (p := ⟨p + 1, 2, none⟩) (.inr rfl) (.int .i64 l.s)).set (p := ⟨p + 1, 3, none⟩) (.inr rfl) (.slice Ar l.x.length cr))
    clear HE6
    go_wp2
    have HFF := HF.out _ x l.s HK9.out HX.out HY.out
    rw [← HPW.out] at HFF v0 v1 v2 v3 vl ⊢
    exact bodyPost_ret (v := .agg #[.int .i64 l.r, .int .i64 x, .int .i64 l.s, .slice Ar l.x.length cr]) (by simp [results, Tryz.results46, go_sem, v0, v1, v2, v3, vl]) rfl HFF
  · have hq : imgs T (prmL l) = [] := by unfold imgs prmL; rw [if_neg h3, if_neg h4]; rfl
    have hs : mvs T l = l.s := by unfold mvs; rw [if_neg h3]
    have hx : mvf T l = l.f := by unfold mvf; rw [if_neg (by rintro (e | e); exact h3 e; exact h4 e)]
    obtain ⟨Am, cm, rfl⟩ := HM.out.opn
    have hlm : (imgs T (prmL l)).length = 0 := by rw [hq]; rfl
    rw [hlm]
    have HX := Lib.hid hx.symm
    have HY := Lib.hid hs.symm
    have HF := Lib.hid hfin
    have HK6 : Hid (KpS (fun k => k = p ∨ k = p + 1) w4 w4) := Lib.hid (KpS.refl _ _)
    have HS2 := HD
    have HE2 := HE
    clear hx hs hfin hq hlm h3 h4 HM HMO
    go_upto_region 7 with fail
    clear d0 d1 d2 d3 g1 g2 dl
    have t0 := HS2.out.cell 0
    have t1 := HS2.out.cell 1
    have t2 := HS2.out.cell 2
    have t3 := HS2.out.cell 3
    have tl := HS2.out.lt
    have u0 := HE2.out.frozen 0
    have u1 := HE2.out.frozen 1
    have u2 := HE2.out.frozen 2
    have u3 := HE2.out.frozen 3
    have c0 := HE2.out.cell 0
    have c1 := HE2.out.cell 1
    have c2 := HE2.out.cell 2
    have c3 := HE2.out.cell 3
    have ul := HE2.out.lt
    have HE6 := (((HE2.out.set_ 0 (.int .i64 l.r)).set_ 1 (.int .i64 l.f)).set_ 2 (.int .i64 l.s)).set_ 3 (.slice Ar l.x.length cr)
    have v0 := HE6.cell 0
    have v1 := HE6.cell 1
    have v2 := HE6.cell 2
    have v3 := HE6.cell 3
    have vl := HE6.lt
    have HK9 := Lib.hid ((((HK6.out.set (p := ⟨p + 1, 0, none⟩) (.inr rfl) (.int .i64 l.r)).set (p := ⟨p + 1, 1, none⟩) (.inr rfl) (.int .i64 l.f)).set (p := ⟨p + 1, 2, none⟩) (.inr rfl) (.int .i64 l.s)).set (p := ⟨p + 1, 3, none⟩) (.inr rfl) (.slice Ar l.x.length cr))
    clear HE6
    go_wp2
    have HFF := HF.out _ l.f l.s HK9.out HX.out HY.out
    rw [← HPW.out] at HFF v0 v1 v2 v3 vl ⊢
    exact bodyPost_ret (v := .agg #[.int .i64 l.r, .int .i64 l.f, .int .i64 l.s, .slice Ar l.x.length cr]) (by simp [results, Tryz.results46, go_sem, v0, v1, v2, v3, vl]) rfl HFF
/- The discharger: a line is added while a formula made before waits. -/
open Go.RowKit
set_option linter.unusedVariables false
set_option linter.unusedSimpArgs false
/-- a formula of the call's own that is in no line yet -/
def FrW (B : Nat) (c : Nat → Nat) (w : World) (v : Value) (xs : List Nd) : Prop := Ow cN 75 B w v xs ∧ ∀ k, v.ownBlock = some k → c k = 0
theorem FrW.go {B : Nat} {c : Nat → Nat} {w w1 : World} {v : Value} {xs : List Nd} (h : FrW B c w v xs) (hb : Below w.heap.size w w1) : FrW B (fz c w.heap.size) w1 v xs :=
  ⟨h.1.below hb, fun k e => by rw [fz_lt (h.1.block k e).2, h.2 k e]⟩
theorem FrW.kps {B : Nat} {c c' : Nat → Nat} {w w' : World} {v : Value} {xs : List Nd} {S : Nat → Prop} (h : FrW B c w v xs) (hk : KpS S w w') (hS : ∀ k, S k → c k ≠ 0) (hc : ∀ k, v.ownBlock = some k → c' k = c k) : FrW B c' w' v xs :=
  ⟨h.1.kps hk fun k e s => hS k s (h.2 k e), fun k e => by rw [hc k e, h.2 k e]⟩
theorem impl_addF {B g : Nat} {c : Nat → Nat} {va vl vs vi vf : Value} {ls : List Ln} {se im : List Int} {F : List Nd} {w w1 : World} (h : DsM B g c va vl vs vi ls se im w) (hf : FrW B c w vf F) (hb : Below w.heap.size w w1) {A : Option Addr} {n cc : Nat} {xs : List Nd} (ho : Ow cN 75 w.heap.size w1 (.slice A n cc) xs) (r f s : Int) (hl : ls.length ≤ 1000) :
    Calls Tryz.prog 48 #[.pointer (some ⟨g, 0, none⟩), .int .i64 r, .int .i64 f, .int .i64 s, .slice A n cc] w1 fun e w' => e = .returned (.int .i64 ls.length) ∧ ∃ vl' c', DsM B g c' va vl' vs vi (ls ++ [⟨r, f, s, xs⟩]) se im w' ∧ FrW B c' w' vf F ∧ Below B w w' := by
  obtain ⟨h1, ho', hc⟩ := h.free hb ho
  refine (impl_add h1 ho' hc r f s hl).mono ?_
  rintro e w' ⟨rfl, vl', c', h2, hcc, hk⟩
  refine ⟨rfl, vl', c', h2, (hf.go hb).kps hk (fun k e => by omega) (fun k e => hcc k ((hf.go hb).1.block k e).2 fun e2 => ?_), (hb.mono (by have := h.gB; have := h.blk.lt; omega)).trans (h1.toB hk fun k e => by omega)⟩
  have := (ho.block k e2).1
  have := (hf.1.block k e).2
  omega
/- The discharger: the lines for the hypothesis itself. -/
open Go.RowKit
set_option linter.unusedVariables false
set_option linter.unusedSimpArgs false
set_option maxRecDepth 100000 in
set_option maxHeartbeats 2000000 in
theorem impl_identity {g : Nat} {c : Nat → Nat} {va vl vs vi : Value} {ls : List Ln} {se im : List Int} {w0 w : World} (h : DsM w0.heap.size g c va vl vs vi ls se im w) (hb : Below w0.heap.size w0 w) {a : List Nd} (ha : Sl cN w0 va a) (hla : a.length ≤ 40) (hl : ls.length ≤ 995) (hse : se.length ≤ 200) (him : im.length ≤ 200) :
    Calls Tryz.prog 50 #[.pointer (some ⟨g, 0, none⟩)] w fun e w' => e = .returned (.tuple #[]) ∧ ∃ vl' vs' vi' c',
      DsM w0.heap.size g c' va vl' vs' vi' (ls ++ idLs a ls.length) (se ++ [-1]) (im ++ [(ls.length : Int) + 4]) w' ∧ Below w0.heap.size w0 w' := by
  have HH := Lib.hid h
  have HB := Lib.hid hb
  have HA := Lib.hid ha
  obtain ⟨Aa, ca, rfl⟩ := ha.opn
  have HA2 := Lib.hid (arrowC2 w (ha.below hb) (ha.below hb) (by omega) (by omega))
  have d0 := h.blk.cell 0
  have ld := h.blk.lt
  clear h hb ha
  obtain ⟨AA, hAA⟩ : ∃ X, [((4 : Int), (0 : Int))] ++ a ++ a = X := ⟨_, rfl⟩
  have HLA : Hid (AA.length ≤ 81) := Lib.hid (by rw [← hAA]; simp; omega)
  rw [hAA] at HA2
  have HAA := Lib.hid hAA
  clear hAA
  go_enter Tryz.func50, Tryz.ntmps50
  go_wp2_with fail
  refine HA2.out.mono ?_
  rintro e w1 ⟨r, rfl, ho1, hb1⟩
  obtain ⟨h1, ho1', hc1⟩ := HH.out.free hb1 ho1
  have HF1 : Hid (FrW w0.heap.size (fz c w.heap.size) w1 r AA) := Lib.hid ⟨ho1', hc1⟩
  obtain ⟨A1, c1, rfl⟩ := ho1'.opn
  have HB1 := Lib.hid (HB.out.trans (hb1.mono HB.out.size))
  have H1 := Lib.hid h1
  have HA3 := Lib.hid (arrowC3 w1 (HA.out.below HB1.out) ho1'.sl (HA.out.below HB1.out) (by omega) (by have := HLA.out; omega) (by omega))
  obtain ⟨F1, hF1⟩ : ∃ X, [((4 : Int), (0 : Int))] ++ a ++ ([((4 : Int), (0 : Int))] ++ AA ++ a) = X := ⟨_, rfl⟩
  rw [hF1] at HA3
  have HF := Lib.hid hF1
  have HLF : Hid (F1.length ≤ 163) := Lib.hid (by rw [← hF1]; simp; have := HLA.out; omega)
  generalize fz c w.heap.size = cc1 at *
  clear h1 ho1 ho1' hc1 hb1 HA2 hF1 d0 ld
  go_wp2_with fail
  refine HA3.out.mono ?_
  rintro e w2 ⟨r, rfl, ho2, hb2⟩
  obtain ⟨A2, c2, rfl⟩ := ho2.opn
  have HAD := Lib.hid (impl_addF H1.out HF1.out hb2 ho2 1 0 0 (by omega))
  clear ho2 hb2 HA3
  go_wp2_with fail
  refine HAD.out.mono ?_
  rintro e w3 ⟨rfl, vl3, c3, h3, hf3, hb3⟩
  obtain ⟨L1, hL1⟩ : ∃ L, ls ++ [(⟨1, 0, 0, F1⟩ : Ln)] = L := ⟨_, rfl⟩
  have HL1 : Hid (L1.length = ls.length + 1) := Lib.hid (by rw [← hL1]; simp)
  rw [hL1] at h3
  have HL := Lib.hid hL1
  have H3 := Lib.hid h3
  have HF3 := Lib.hid hf3
  have HB3 := Lib.hid (HB1.out.trans hb3)
  have HA4 := Lib.hid (fun W (hW : Below w3.heap.size w3 W) => arrowC3 W (HA.out.below (HB3.out.trans (hW.mono HB3.out.size))) (hf3.go hW).1.sl (HA.out.below (HB3.out.trans (hW.mono HB3.out.size))) (by omega) (by have := HLA.out; omega) (by omega))
  rw [HF.out] at HA4
  have HA5 := Lib.hid (fun W (hW : Below w3.heap.size w3 W) => arrowC2 W (HA.out.below (HB3.out.trans (hW.mono HB3.out.size))) (hf3.go hW).1.sl (by omega) (by have := HLA.out; omega))
  clear hL1 h3 hf3 hb3 HAD H1 HF1 HB1
  go_wp2_with fail
  refine (HA4.out w3 (Below.refl _ _)).mono ?_
  rintro e w4 ⟨r4, rfl, ho4, hb4⟩
  obtain ⟨A4, c4, rfl⟩ := ho4.opn
  obtain ⟨G2, hG2⟩ : ∃ X, [((4 : Int), (0 : Int))] ++ a ++ AA = X := ⟨_, rfl⟩
  rw [hG2] at HA5
  have HG2 := Lib.hid hG2
  have HLG : Hid (G2.length ≤ 122) := Lib.hid (by rw [← hG2]; simp; have := HLA.out; omega)
  have AR5 := Lib.hid (HA5.out w4 hb4)
  have HO4 := Lib.hid ho4
  have HB4 := Lib.hid hb4
  clear hG2 ho4 hb4
  go_wp2_with fail
  refine AR5.out.mono ?_
  rintro e w5 ⟨r5, rfl, ho5, hb5⟩
  obtain ⟨A5, c5, rfl⟩ := ho5.opn
  have HB5 := Lib.hid (HB4.out.trans (hb5.mono HB4.out.size))
  have AR6 := Lib.hid (arrowC3 w5 (HO4.out.sl.below hb5) ho5.sl (HF3.out.go HB5.out).1.sl (by have := HLF.out; omega) (by have := HLG.out; omega) (by have := HLA.out; omega))
  obtain ⟨G3, hG3⟩ : ∃ X, [((4 : Int), (0 : Int))] ++ F1 ++ ([((4 : Int), (0 : Int))] ++ G2 ++ AA) = X := ⟨_, rfl⟩
  rw [hG3] at AR6
  have HG3 := Lib.hid hG3
  clear hG3 ho5 hb5 AR5
  go_wp2_with fail
  refine AR6.out.mono ?_
  rintro e w6 ⟨r6, rfl, ho6, hb6⟩
  obtain ⟨A6, c6, rfl⟩ := ho6.opn
  have HAD6 := Lib.hid (impl_addF H3.out HF3.out (HB5.out.trans (hb6.mono HB5.out.size)) (ho6.mono HB5.out.size) 1 1 0 (by have := HL1.out; omega))
  clear ho6 hb6 AR6
  go_wp2_with fail
  refine HAD6.out.mono ?_
  rintro e w7 ⟨rfl, vl7, c7, h7, hf7, hb7⟩
  obtain ⟨L2, hL2⟩ : ∃ L, L1 ++ [(⟨1, 1, 0, G3⟩ : Ln)] = L := ⟨_, rfl⟩
  have HL2 : Hid (L2.length = ls.length + 2) := Lib.hid (by rw [← hL2, List.length_append, HL1.out]; rfl)
  rw [hL2] at h7
  have HLb := Lib.hid hL2
  have H7 := Lib.hid h7
  have HF7 := Lib.hid hf7
  have HB7 := Lib.hid (HB3.out.trans hb7)
  have HA7 := Lib.hid (fun W (hW : Below w7.heap.size w7 W) => arrowC2 W (HA.out.below (HB7.out.trans (hW.mono HB7.out.size))) (hf7.go hW).1.sl (by omega) (by have := HLA.out; omega))
  rw [HG2.out] at HA7
  clear hL2 h7 hf7 hb7 HAD6 H3 HF3 HB3 HA4 HA5 HO4 HB4 HB5
  go_wp2_with fail
  refine (HA7.out w7 (Below.refl _ _)).mono ?_
  rintro e w8 ⟨r8, rfl, ho8, hb8⟩
  obtain ⟨A8, c8, rfl⟩ := ho8.opn
  have AR9 := Lib.hid (arrowC2 w8 ho8.sl (HF7.out.go hb8).1.sl (by have := HLG.out; omega) (by have := HLA.out; omega))
  obtain ⟨G4, hG4⟩ : ∃ X, [((4 : Int), (0 : Int))] ++ G2 ++ AA = X := ⟨_, rfl⟩
  rw [hG4] at AR9
  have HG4 := Lib.hid hG4
  have HB8 := Lib.hid hb8
  clear hG4 ho8 hb8
  go_wp2_with fail
  refine AR9.out.mono ?_
  rintro e w9 ⟨r9, rfl, ho9, hb9⟩
  obtain ⟨A9, c9, rfl⟩ := ho9.opn
  have HAD9 := Lib.hid (impl_addF H7.out HF7.out (HB8.out.trans (hb9.mono HB8.out.size)) (ho9.mono HB8.out.size) 3 L1.length ls.length (by have := HL2.out; omega))
  clear ho9 hb9 AR9
  go_wp2_with fail
  refine HAD9.out.mono ?_
  rintro e w10 ⟨rfl, vl10, c10, h10, hf10, hb10⟩
  obtain ⟨L3, hL3⟩ : ∃ L, L2 ++ [(⟨3, L1.length, ls.length, G4⟩ : Ln)] = L := ⟨_, rfl⟩
  have HL3 : Hid (L3.length = ls.length + 3) := Lib.hid (by rw [← hL3, List.length_append, HL2.out]; rfl)
  rw [hL3] at h10
  have HLc := Lib.hid hL3
  have H10 := Lib.hid h10
  have HF10 := Lib.hid hf10
  have HB10 := Lib.hid (HB7.out.trans hb10)
  have HA10 := Lib.hid (arrowC2 w10 (HA.out.below HB10.out) hf10.1.sl (by omega) (by have := HLA.out; omega))
  rw [HG2.out] at HA10
  clear hL3 h10 hf10 hb10 HAD9 H7 HF7 HB7 HA7 HB8
  go_wp2_with fail
  refine HA10.out.mono ?_
  rintro e w11 ⟨r11, rfl, ho11, hb11⟩
  obtain ⟨A11, c11, rfl⟩ := ho11.opn
  have HAD11 := Lib.hid (impl_addF H10.out HF10.out hb11 ho11 1 0 0 (by have := HL3.out; omega))
  clear ho11 hb11 HA10
  go_wp2_with fail
  refine HAD11.out.mono ?_
  rintro e w12 ⟨rfl, vl12, c12, h12, hf12, hb12⟩
  obtain ⟨L4, hL4⟩ : ∃ L, L3 ++ [(⟨1, 0, 0, G2⟩ : Ln)] = L := ⟨_, rfl⟩
  have HL4 : Hid (L4.length = ls.length + 4) := Lib.hid (by rw [← hL4, List.length_append, HL3.out]; rfl)
  rw [hL4] at h12
  have HLd := Lib.hid hL4
  have H12 := Lib.hid h12
  have HF12 := Lib.hid hf12
  have HB12 := Lib.hid (HB10.out.trans hb12)
  have HSZ := Lib.hid (show w0.heap.size ≤ w12.heap.size by have := h12.gB; have := h12.blk.lt; omega)
  obtain ⟨As, cs, rfl⟩ := h12.se_.opn
  have d2 := h12.blk.cell 2
  have ld := h12.blk.lt
  clear hL4 h12 hf12 hb12 HAD11 H10 HF10 HB10
  go_wp2_with (at_builtin; refine stopHere ?_)
  refine goHere ?_
  refine ap_one (K := cI) w12 ty_int64 rfl _ _ rfl (B := w0.heap.size) (v := .slice As se.length cs) (xs := se) rfl H12.out.se_ (-1) rfl rfl (by omega) HSZ.out ?_
  intro v13 w13 ho13 hg13 hb13 hat13
  obtain ⟨hbk, hbs, c13, h13, hcc13, hk13⟩ := H12.out.addS _ w13 v13 (-1) hg13 ho13 hat13
  have HB13 := Lib.hid (HB12.out.trans (H12.out.toB hk13 fun k e => by omega))
  have HF13 : Hid (FrW w0.heap.size c13 (w13.setCell ⟨g, 2, none⟩ v13) (.slice A1 AA.length c1) AA) := Lib.hid (HF12.out.kps hk13 (fun k e => by omega) (fun k e => hcc13 k (HF12.out.1.block k e).2))
  have H13 := Lib.hid h13
  have d2' := hbk.cell 2
  have f2' := hbk.frozen 2
  have ld' := hbk.lt
  obtain ⟨A3, cc3, rfl⟩ := ho13.opn
  generalize (se ++ [-1]).length = n3 at *
  clear hbs ho13 hg13 hb13 hat13 hbk h13 hk13 hcc13 d2
  obtain ⟨Ai, ci, rfl⟩ := H13.out.im_.opn
  go_upto_region 7 with fail
  obtain ⟨w14, hw14⟩ : ∃ W, W = w13.setCell ⟨g, 2, none⟩ (.slice A3 n3 cc3) := ⟨_, rfl⟩
  rw [← hw14] at H13 HB13 HF13 ⊢
  clear hw14 d2' f2' ld' ld H12 HF12 HB12
  have i3 : w14.cell? ⟨g, 3, none⟩ = some (.slice Ai im.length ci) := H13.out.blk.cell 3
  refine wp_region_sched (fun X => X.cell? ⟨g, 3, none⟩ = some (.slice Ai im.length ci)) 12 [0, 1, 2, 3, 4, 5, 6, 7, 8] [0, 1, 2, 3, 4, 5, 6, 7, 8, 9, 10, 11] (by kernel_rfl) (by kernel_rfl) i3 ?_
  repeat
    apply wpSched_q rfl rfl
    case h =>
      intro w' hI K hK
      have d3' := hI
      simp only [quietV, stillV]
      go_simp
      exact hK
    go_simp
  have hb4 : Below w14.heap.size w14 w14.drew := (Below.refl _ _).drew
  have H4 := Lib.hid (H13.out.go hb4)
  have HF4 := Lib.hid (HF13.out.go hb4)
  have HB4 := Lib.hid (HB13.out.trans (hb4.mono HB13.out.size))
  clear hb4
  generalize fz c13 w14.heap.size = c14 at *
  obtain ⟨w15, hw15⟩ : ∃ W, W = w14.drew := ⟨_, rfl⟩
  rw [← hw15] at H4 HF4 HB4 ⊢
  have j3 : w15.cell? ⟨g, 3, none⟩ = some (.slice Ai im.length ci) := H4.out.blk.cell 3
  clear hw15 i3 H13 HF13 HB13
  have HAD15 := Lib.hid (impl_add H4.out HF4.out.1 HF4.out.2 3 L2.length L3.length (by have := HL4.out; omega))
  refine wpSched_r rfl rfl ?_ j3
  intro K hK hI
  go_simp
  refine HAD15.out.mono ?_
  rintro e w16 ⟨rfl, vl16, c16, h16, -, hk16⟩
  have HB16 := Lib.hid (HB4.out.trans (H4.out.toB hk16 fun k e => by omega))
  have k3 : w16.cell? ⟨g, 3, none⟩ = some (.slice Ai im.length ci) := h16.blk.cell 3
  refine hK _ _ k3 ?_
  clear hK K hI
  refine wpSched_r rfl rfl ?_ k3
  intro K hK hI
  go_simp
  obtain ⟨q, hq⟩ : ∃ q : Int, (L4.length : Int) = q := ⟨_, rfl⟩
  have HQ : Hid (q = (ls.length : Int) + 4) := Lib.hid (by rw [← hq, HL4.out]; rfl)
  rw [hq]
  have jk : (w16.alloc (.cells #[.int .i64 q] 2)).cell? ⟨g, 3, none⟩ = some (.slice Ai im.length ci) := ((below_alloc' w16 _).cell (p := ⟨g, 3, none⟩) h16.blk.lt).trans k3
  refine hK _ _ jk ?_
  clear hK K hI
  refine wpSched_r rfl rfl ?_ jk
  intro K hK hI
  refine step_oneS (K := cI) w16 ty_int64 rfl _ _ rfl (B := w0.heap.size) (v := .slice Ai im.length ci) (xs := im) (by simp [Act.eval, Act.put]; done) h16.im_ q rfl (by simp [Act.eval, Act.put]; done) (by omega) (by have := h16.gB; have := h16.blk.lt; omega) ?_
  intro v17 w17 ho17 hg17 hb17 hat17
  obtain ⟨hbk, hbs, c17, h17, -, hk17⟩ := h16.addI _ w17 v17 q hg17 ho17 hat17
  obtain ⟨A9, cc9, rfl⟩ := ho17.opn
  generalize (im ++ [q]).length = n9 at *
  refine hK _ _ (hbk.cell 3) ?_
  clear hK K hI
  have HB17 := Lib.hid (HB16.out.trans (h16.toB hk17 fun k e => by omega))
  have HBK := Lib.hid hbk
  have HLL : Hid (ls ++ idLs a ls.length = L4 ++ [⟨3, L2.length, L3.length, AA⟩]) := Lib.hid (by
    unfold idLs
    dsimp only
    rw [HAA.out, HG2.out, HF.out, HG3.out, HG4.out, HL2.out, HL3.out, ← HLd.out, ← HLc.out, HL1.out, ← HLb.out, ← HL.out]
    simp [List.append_assoc])
  rw [← HLL.out, HQ.out] at h17
  have H17 := Lib.hid h17
  clear h17 hbk hbs hk17 ho17 hg17 hb17 hat17 jk k3 hq h16 hk16 HAD15 j3
  refine wpSched_nil ?_
  try simp only [List.drop_succ_cons, List.drop_zero, List.drop_nil]
  have e0 := HBK.out.cell 3
  have e1 := HBK.out.frozen 3
  have e2 := HBK.out.lt
  go_wp2
  go_end0
  exact ⟨rfl, _, _, _, c17, H17.out, HB17.out⟩
end Go.Proofs.YtcikenffeekkeaaGreatDoor

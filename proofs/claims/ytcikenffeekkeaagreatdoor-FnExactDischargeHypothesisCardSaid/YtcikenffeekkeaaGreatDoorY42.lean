/- Contracts of the reference: is a line as in a proof? Written by genS3G.py. -/
import Derived.Test.YtcikenffeekkeaaGreatDoorY41
import Derived.Test.YtcikenffeekkeaaGreatDoorY34
namespace Go.Proofs.YtcikenffeekkeaaGreatDoor
open Go.RowKit
set_option linter.unusedVariables false
set_option linter.unusedSimpArgs false
theorem SlL.take {w : World} {A : Option Addr} {n c c' : Nat} {ls : List Ln} (h : SlL w (.slice A n c) ls) {k : Nat} (hk : k ≤ ls.length) (hc : k ≤ c') (hm : c' ≤ 9223372036854775807) : SlL w (.slice A k c') (ls.take k) := by
  obtain ⟨hs, h1, h2, h3⟩ := h
  refine ⟨hs.take k, h1.cut0 (by omega) hc hm, by simp; omega, fun i p q => ?_⟩
  rw [List.length_take] at p q
  rw [List.getElem_take, List.getElem_take]
  exact h3 i (by omega) (by omega)
theorem SlL.capL {w : World} {A : Option Addr} {n c : Nat} {ls : List Ln} (h : SlL w (.slice A n c) ls) : ls.length ≤ c ∧ c ≤ 9223372036854775807 := by
  obtain ⟨hs, h1, h2, h3⟩ := h
  have := h1.cap
  omega
set_option maxRecDepth 100000 in
set_option maxHeartbeats 4000000 in
theorem spec_l13Fine_no (t : List UInt8) (hy : List (List Nd)) (ls : List Ln) (k : Nat) (hk : k < ls.length) (vh vl : Value) (w : World) (hH : Sl2 cN w vh hy) (hhl : hy.length ≤ 1048576) (hhy : ∀ xs ∈ hy, xs.length ≤ 1048576) (hL : SlL w vl ls) (hll : ls.length ≤ 200) (hlx : ∀ l ∈ ls, l.x.length ≤ 1048576)
    (hok : ∀ i (h : i < ls.length), i < k → fine t hy ls i (ls[i]'h) = true) (r f s : Int) (xs : List Nd) (hPk : ls[k] = ⟨r, f, s, xs⟩) (hF : isF xs = false) :
    Calls Tryz.prog 56 #[.string ⟨⟨t⟩⟩, vh, vl, .int .i64 (k : Int)] w fun e w' => e = .returned (.bool (fine t hy ls k (ls[k]'hk))) ∧ Below w.heap.size w w' := by
  have HLL := Lib.hid hL
  have HHH := Lib.hid hH
  have HOK := Lib.hid hok
  have hxk := hlx _ (List.getElem_mem hk)
  have HLX := Lib.hid hlx
  have HHY := Lib.hid hhy
  obtain ⟨AL, cL, rfl⟩ := hL.opn
  obtain ⟨Ah, ch, rfl⟩ := hH.opn
  have HCP := Lib.hid hL.capL
  obtain ⟨bL, oL, Ax, cx, rfl, hbL, l0, l1, l2, l3, hsx⟩ := hL.at_ hk
  rw [hPk] at hxk l0 l1 l2 l3 hsx ⊢
  simp only at hxk l0 l1 l2 l3 hsx
  have HX := Lib.hid hsx
  have hb1 := below_alloc' w (.cells #[.int .i64 r, .int .i64 f, .int .i64 s, .slice Ax xs.length cx] 46)
  have hkk := Blk.new w 46 #[.int .i64 r, .int .i64 f, .int .i64 s, .slice Ax xs.length cx]
  have HB1 := Lib.hid hb1
  obtain ⟨fv, hfv⟩ : ∃ b, fine t hy ls k ⟨r, f, s, xs⟩ = b := ⟨_, rfl⟩
  rw [hfv]
  unfold fine at hfv
  simp only at hfv
  have HFV := Lib.hid hfv
  have hwr : IntKind.i64.wrap ((k : Int) - 1) = (k : Int) - 1 := IntWalk.i64_in _ ⟨by omega, by omega⟩
  have HPK := Lib.hid hPk
  clear hL hH hok hlx hhy hsx hb1 hfv hPk
  go_enter Tryz.func56, Tryz.ntmps56
  go_upto_region 2 with fail
  clear l0 l1 l2 l3
  obtain ⟨w1, hw1⟩ : ∃ W, W = w.alloc (.cells #[.int .i64 r, .int .i64 f, .int .i64 s, .slice Ax xs.length cx] 46) := ⟨_, rfl⟩
  rw [← hw1] at hkk HB1 ⊢
  obtain ⟨p, hp⟩ : ∃ p, w.heap.size = p := ⟨_, rfl⟩
  have HPW : Hid (w.heap.size = p) := Lib.hid hp
  rw [hp] at hkk ⊢
  clear hw1 hp
  have k0 : w1.cell? ⟨p, 0, none⟩ = some (.int .i64 r) := hkk.cell 0
  have k1 : w1.cell? ⟨p, 1, none⟩ = some (.int .i64 f) := hkk.cell 1
  have k2 : w1.cell? ⟨p, 2, none⟩ = some (.int .i64 s) := hkk.cell 2
  have k3 : w1.cell? ⟨p, 3, none⟩ = some (.slice Ax xs.length cx) := hkk.cell 3
  have lp := hkk.lt
  clear hkk
  have HIS := Lib.hid (spec_l02Is _ xs w1 (HX.out.below HB1.out) (by omega))
  have HIN := Lib.hid (spec_l01In f 0 ((k : Int) - 1) w1)
  go_wp2_with fail
  refine HIS.out.mono ?_
  rintro e w1' ⟨rfl, rfl⟩
  clear HIS
  rw [hF] at HFV ⊢
  go_wp2
  go_ret
  exact ⟨by rw [← HFV.out]; simp, by rw [← HPW.out] at *; exact HB1.out⟩
set_option maxRecDepth 100000 in
set_option maxHeartbeats 4000000 in
theorem spec_l13Fine_other (t : List UInt8) (hy : List (List Nd)) (ls : List Ln) (k : Nat) (hk : k < ls.length) (vh vl : Value) (w : World) (hH : Sl2 cN w vh hy) (hhl : hy.length ≤ 1048576) (hhy : ∀ xs ∈ hy, xs.length ≤ 1048576) (hL : SlL w vl ls) (hll : ls.length ≤ 200) (hlx : ∀ l ∈ ls, l.x.length ≤ 1048576)
    (hok : ∀ i (h : i < ls.length), i < k → fine t hy ls i (ls[i]'h) = true) (r f s : Int) (xs : List Nd) (hPk : ls[k] = ⟨r, f, s, xs⟩) (hF : isF xs = true) (n1 : r ≠ 1) (n2 : r ≠ 2) (n3 : r ≠ 3) (n4 : r ≠ 4) :
    Calls Tryz.prog 56 #[.string ⟨⟨t⟩⟩, vh, vl, .int .i64 (k : Int)] w fun e w' => e = .returned (.bool (fine t hy ls k (ls[k]'hk))) ∧ Below w.heap.size w w' := by
  have HLL := Lib.hid hL
  have HHH := Lib.hid hH
  have HOK := Lib.hid hok
  have hxk := hlx _ (List.getElem_mem hk)
  have HLX := Lib.hid hlx
  have HHY := Lib.hid hhy
  obtain ⟨AL, cL, rfl⟩ := hL.opn
  obtain ⟨Ah, ch, rfl⟩ := hH.opn
  have HCP := Lib.hid hL.capL
  obtain ⟨bL, oL, Ax, cx, rfl, hbL, l0, l1, l2, l3, hsx⟩ := hL.at_ hk
  rw [hPk] at hxk l0 l1 l2 l3 hsx ⊢
  simp only at hxk l0 l1 l2 l3 hsx
  have HX := Lib.hid hsx
  have hb1 := below_alloc' w (.cells #[.int .i64 r, .int .i64 f, .int .i64 s, .slice Ax xs.length cx] 46)
  have hkk := Blk.new w 46 #[.int .i64 r, .int .i64 f, .int .i64 s, .slice Ax xs.length cx]
  have HB1 := Lib.hid hb1
  obtain ⟨fv, hfv⟩ : ∃ b, fine t hy ls k ⟨r, f, s, xs⟩ = b := ⟨_, rfl⟩
  rw [hfv]
  unfold fine at hfv
  simp only at hfv
  have HFV := Lib.hid hfv
  have hwr : IntKind.i64.wrap ((k : Int) - 1) = (k : Int) - 1 := IntWalk.i64_in _ ⟨by omega, by omega⟩
  have HPK := Lib.hid hPk
  clear hL hH hok hlx hhy hsx hb1 hfv hPk
  go_enter Tryz.func56, Tryz.ntmps56
  go_upto_region 2 with fail
  clear l0 l1 l2 l3
  obtain ⟨w1, hw1⟩ : ∃ W, W = w.alloc (.cells #[.int .i64 r, .int .i64 f, .int .i64 s, .slice Ax xs.length cx] 46) := ⟨_, rfl⟩
  rw [← hw1] at hkk HB1 ⊢
  obtain ⟨p, hp⟩ : ∃ p, w.heap.size = p := ⟨_, rfl⟩
  have HPW : Hid (w.heap.size = p) := Lib.hid hp
  rw [hp] at hkk ⊢
  clear hw1 hp
  have k0 : w1.cell? ⟨p, 0, none⟩ = some (.int .i64 r) := hkk.cell 0
  have k1 : w1.cell? ⟨p, 1, none⟩ = some (.int .i64 f) := hkk.cell 1
  have k2 : w1.cell? ⟨p, 2, none⟩ = some (.int .i64 s) := hkk.cell 2
  have k3 : w1.cell? ⟨p, 3, none⟩ = some (.slice Ax xs.length cx) := hkk.cell 3
  have lp := hkk.lt
  clear hkk
  have HIS := Lib.hid (spec_l02Is _ xs w1 (HX.out.below HB1.out) (by omega))
  have HIN := Lib.hid (spec_l01In f 0 ((k : Int) - 1) w1)
  go_wp2_with fail
  refine HIS.out.mono ?_
  rintro e w1' ⟨rfl, rfl⟩
  clear HIS
  rw [hF, Bool.true_and] at HFV
  rw [hF]
  have HFN := Lib.hid hF
  go_wp2_with fail
  refine HIN.out.mono ?_
  rintro e w1' ⟨rfl, rfl⟩
  clear HIN
  rw [if_neg n1, if_neg n2, if_neg n3, if_neg n4] at HFV
  have q1 : (r == 1) = false := by simpa using n1
  have q2 : (r == 2) = false := by simpa using n2
  have q3 : (r == 3) = false := by simpa using n3
  have q4 : (r == 4) = false := by simpa using n4
  generalize inR f 0 ((k : Int) - 1) = bi at *
  go_wp2
  go_ret
  exact ⟨by rw [← HFV.out]; rfl, HB1.out⟩
set_option maxRecDepth 100000 in
set_option maxHeartbeats 4000000 in
theorem spec_l13Fine_sch (t : List UInt8) (hy : List (List Nd)) (ls : List Ln) (k : Nat) (hk : k < ls.length) (vh vl : Value) (w : World) (hH : Sl2 cN w vh hy) (hhl : hy.length ≤ 1048576) (hhy : ∀ xs ∈ hy, xs.length ≤ 1048576) (hL : SlL w vl ls) (hll : ls.length ≤ 200) (hlx : ∀ l ∈ ls, l.x.length ≤ 1048576)
    (hok : ∀ i (h : i < ls.length), i < k → fine t hy ls i (ls[i]'h) = true) (f s : Int) (xs : List Nd) (hPk : ls[k] = ⟨1, f, s, xs⟩) (hF : isF xs = true) :
    Calls Tryz.prog 56 #[.string ⟨⟨t⟩⟩, vh, vl, .int .i64 (k : Int)] w fun e w' => e = .returned (.bool (fine t hy ls k (ls[k]'hk))) ∧ Below w.heap.size w w' := by
  have HLL := Lib.hid hL
  have HHH := Lib.hid hH
  have HOK := Lib.hid hok
  have hxk := hlx _ (List.getElem_mem hk)
  have HLX := Lib.hid hlx
  have HHY := Lib.hid hhy
  obtain ⟨AL, cL, rfl⟩ := hL.opn
  obtain ⟨Ah, ch, rfl⟩ := hH.opn
  have HCP := Lib.hid hL.capL
  obtain ⟨bL, oL, Ax, cx, rfl, hbL, l0, l1, l2, l3, hsx⟩ := hL.at_ hk
  rw [hPk] at hxk l0 l1 l2 l3 hsx ⊢
  simp only at hxk l0 l1 l2 l3 hsx
  have HX := Lib.hid hsx
  have hb1 := below_alloc' w (.cells #[.int .i64 1, .int .i64 f, .int .i64 s, .slice Ax xs.length cx] 46)
  have hkk := Blk.new w 46 #[.int .i64 1, .int .i64 f, .int .i64 s, .slice Ax xs.length cx]
  have HB1 := Lib.hid hb1
  obtain ⟨fv, hfv⟩ : ∃ b, fine t hy ls k ⟨1, f, s, xs⟩ = b := ⟨_, rfl⟩
  rw [hfv]
  unfold fine at hfv
  simp only at hfv
  have HFV := Lib.hid hfv
  have hwr : IntKind.i64.wrap ((k : Int) - 1) = (k : Int) - 1 := IntWalk.i64_in _ ⟨by omega, by omega⟩
  have HPK := Lib.hid hPk
  clear hL hH hok hlx hhy hsx hb1 hfv hPk
  go_enter Tryz.func56, Tryz.ntmps56
  go_upto_region 2 with fail
  clear l0 l1 l2 l3
  obtain ⟨w1, hw1⟩ : ∃ W, W = w.alloc (.cells #[.int .i64 1, .int .i64 f, .int .i64 s, .slice Ax xs.length cx] 46) := ⟨_, rfl⟩
  rw [← hw1] at hkk HB1 ⊢
  obtain ⟨p, hp⟩ : ∃ p, w.heap.size = p := ⟨_, rfl⟩
  have HPW : Hid (w.heap.size = p) := Lib.hid hp
  rw [hp] at hkk ⊢
  clear hw1 hp
  have k0 : w1.cell? ⟨p, 0, none⟩ = some (.int .i64 1) := hkk.cell 0
  have k1 : w1.cell? ⟨p, 1, none⟩ = some (.int .i64 f) := hkk.cell 1
  have k2 : w1.cell? ⟨p, 2, none⟩ = some (.int .i64 s) := hkk.cell 2
  have k3 : w1.cell? ⟨p, 3, none⟩ = some (.slice Ax xs.length cx) := hkk.cell 3
  have lp := hkk.lt
  clear hkk
  have HIS := Lib.hid (spec_l02Is _ xs w1 (HX.out.below HB1.out) (by omega))
  have HIN := Lib.hid (spec_l01In f 0 ((k : Int) - 1) w1)
  go_wp2_with fail
  refine HIS.out.mono ?_
  rintro e w1' ⟨rfl, rfl⟩
  clear HIS
  rw [hF, Bool.true_and] at HFV
  rw [hF]
  have HFN := Lib.hid hF
  go_wp2_with fail
  refine HIN.out.mono ?_
  rintro e w1' ⟨rfl, rfl⟩
  clear HIN
  rw [if_pos trivial] at HFV
  obtain ⟨g, -, hg, hl40⟩ := (isF_iff _).1 HFN.out
  have HGE := Lib.hid hg
  clear hg
  generalize inR f 0 ((k : Int) - 1) = bi at *
  go_upto_region 7 with fail
  have HSL : Hid (((sysS t).getD []).length ≤ 1048576) := Lib.hid (by
    have : ∀ t, ((sysS t).getD []).length ≤ 1048576 := fun t => by unfold sysS; repeat' split
                                                                   all_goals simp
    exact this t)
  have HLt : Hid (((sysS t).getD []).contains f = true → ∃ k : Nat, f = k ∧ k < 19) := Lib.hid sysS_lt
  have HSC := Lib.hid (fun W => spec_l13Schemes t W)
  generalize (sysS t).getD [] = sl at *
  have hmm : decide (f ∈ sl) = sl.contains f := by rw [Bool.eq_iff_iff]; simp
  have HMM := Lib.hid hmm
  clear hmm
  refine wp_region_sched (Below w1.heap.size w1) 17 [0, 1, 2, 3, 4, 6, 7, 9, 10, 11, 12, 13, 14, 16] [0, 1, 2, 3, 4, 6, 7, 5, 8, 9, 10, 11, 12, 13, 14, 15, 16] (by kernel_rfl) (by kernel_rfl) (Below.refl _ _).drew ?_
  by_cases hs : s = 0
  · subst hs
    rw [decide_eq_true rfl, Bool.true_and] at HFV
    repeat
      apply wpSched_q rfl rfl
      case h =>
        intro w' hI K hK
        have k1' := (hI.cell (p := ⟨p, 1, none⟩) lp).trans k1
        have k2' := (hI.cell (p := ⟨p, 2, none⟩) lp).trans k2
        have k3' := (hI.cell (p := ⟨p, 3, none⟩) lp).trans k3
        simp only [quietV, stillV]
        go_simp
        exact hK
      go_simp
    refine wpSched_r rfl rfl ?_ (Below.refl _ _).drew
    intro K hK hI
    go_simp
    refine (HSC.out _).mono ?_
    rintro e w2 ⟨u, rfl, ho, hb⟩
    have hI2 := hI.trans (hb.mono hI.size)
    obtain ⟨Au, cu, rfl⟩ := ho.opn
    have HHA := Lib.hid (spec_l01Has _ sl f w2 ho.sl (by have := HSL.out; omega))
    rw [HMM.out] at HHA
    refine hK _ _ hI2 ?_
    clear hK K hI hb ho
    repeat
      apply wpSched_q rfl rfl
      case h =>
        intro w' hI K hK
        have k1' := (hI.cell (p := ⟨p, 1, none⟩) lp).trans k1
        have k2' := (hI.cell (p := ⟨p, 2, none⟩) lp).trans k2
        have k3' := (hI.cell (p := ⟨p, 3, none⟩) lp).trans k3
        simp only [quietV, stillV]
        go_simp
        exact hK
      go_simp
    refine wpSched_r rfl rfl ?_ hI2
    intro K hK hI
    go_simp
    refine HHA.out.mono ?_
    rintro e w3 ⟨rfl, rfl⟩
    refine hK _ _ hI ?_
    clear hK K hI HHA
    cases hct : sl.contains f with
    | false =>
      rw [hct] at HFV
      repeat
        apply wpSched_q rfl rfl
        case h =>
          intro w' hI K hK
          have k1' := (hI.cell (p := ⟨p, 1, none⟩) lp).trans k1
          have k2' := (hI.cell (p := ⟨p, 2, none⟩) lp).trans k2
          have k3' := (hI.cell (p := ⟨p, 3, none⟩) lp).trans k3
          simp only [quietV, stillV]
          go_simp
          exact hK
        go_simp
      repeat
        refine wpSched_r rfl rfl ?_ hI2
        intro K hK hI
        go_simp
        refine hK _ _ hI ?_
        clear hK K hI
      repeat
        apply wpSched_q rfl rfl
        case h =>
          intro w' hI K hK
          have k1' := (hI.cell (p := ⟨p, 1, none⟩) lp).trans k1
          have k2' := (hI.cell (p := ⟨p, 2, none⟩) lp).trans k2
          have k3' := (hI.cell (p := ⟨p, 3, none⟩) lp).trans k3
          simp only [quietV, stillV]
          go_simp
          exact hK
        go_simp
      refine wpSched_nil ?_
      try simp only [List.drop_succ_cons, List.drop_zero, List.drop_nil]
      have HE := Lib.hid (bthen HB1.out hI2)
      clear k0 k1 k2 k3 lp hI2
      go_wp2
      go_ret
      exact ⟨by rw [← HFV.out]; simp, HE.out⟩
    | true =>
      rw [hct, Bool.true_and] at HFV
      obtain ⟨i, rfl, hi⟩ := HLt.out hct
      repeat
        apply wpSched_q rfl rfl
        case h =>
          intro w' hI K hK
          have k1' := (hI.cell (p := ⟨p, 1, none⟩) lp).trans k1
          have k2' := (hI.cell (p := ⟨p, 2, none⟩) lp).trans k2
          have k3' := (hI.cell (p := ⟨p, 3, none⟩) lp).trans k3
          simp only [quietV, stillV]
          go_simp
          exact hK
        go_simp
      have HIX : Hid (instX (i : Int) xs = inst (schF i) g) := Lib.hid (by rw [HGE.out, instX_enc]; rfl)
      have hxw := (HX.out.below HB1.out).below hI2
      rw [HGE.out] at hxw
      have HI := Lib.hid (spec_l13Instance i hi g _ w2 hxw (by omega))
      rw [← HGE.out] at HI
      rw [HIX.out] at HFV
      refine wpSched_r rfl rfl ?_ hI2
      intro K hK hI
      go_simp
      refine HI.out.mono ?_
      rintro e w3 ⟨rfl, hb⟩
      have hI3 := hI.trans (hb.mono hI.size)
      refine hK _ _ hI3 ?_
      clear hK K hI hb HI
      repeat
        apply wpSched_q rfl rfl
        case h =>
          intro w' hI K hK
          have k1' := (hI.cell (p := ⟨p, 1, none⟩) lp).trans k1
          have k2' := (hI.cell (p := ⟨p, 2, none⟩) lp).trans k2
          have k3' := (hI.cell (p := ⟨p, 3, none⟩) lp).trans k3
          simp only [quietV, stillV]
          go_simp
          exact hK
        go_simp
      refine wpSched_nil ?_
      try simp only [List.drop_succ_cons, List.drop_zero, List.drop_nil]
      have HE := Lib.hid (bthen HB1.out hI3)
      clear k0 k1 k2 k3 lp hI3 hI2
      go_wp2
      go_ret
      exact ⟨by rw [← HFV.out]; rfl, HE.out⟩
  · rw [decide_eq_false hs] at HFV
    have hq : (s == 0) = false := by simpa using hs
    repeat
      apply wpSched_q rfl rfl
      case h =>
        intro w' hI K hK
        have k1' := (hI.cell (p := ⟨p, 1, none⟩) lp).trans k1
        have k2' := (hI.cell (p := ⟨p, 2, none⟩) lp).trans k2
        have k3' := (hI.cell (p := ⟨p, 3, none⟩) lp).trans k3
        simp only [quietV, stillV]
        go_simp
        exact hK
      go_simp
    repeat
      refine wpSched_r rfl rfl ?_ (Below.refl _ _).drew
      intro K hK hI
      go_simp
      refine hK _ _ hI ?_
      clear hK K hI
    repeat
      apply wpSched_q rfl rfl
      case h =>
        intro w' hI K hK
        have k1' := (hI.cell (p := ⟨p, 1, none⟩) lp).trans k1
        have k2' := (hI.cell (p := ⟨p, 2, none⟩) lp).trans k2
        have k3' := (hI.cell (p := ⟨p, 3, none⟩) lp).trans k3
        simp only [quietV, stillV]
        go_simp
        exact hK
      go_simp
    repeat
      refine wpSched_r rfl rfl ?_ (Below.refl _ _).drew
      intro K hK hI
      go_simp
      refine hK _ _ hI ?_
      clear hK K hI
    repeat
      apply wpSched_q rfl rfl
      case h =>
        intro w' hI K hK
        have k1' := (hI.cell (p := ⟨p, 1, none⟩) lp).trans k1
        have k2' := (hI.cell (p := ⟨p, 2, none⟩) lp).trans k2
        have k3' := (hI.cell (p := ⟨p, 3, none⟩) lp).trans k3
        simp only [quietV, stillV]
        go_simp
        exact hK
      go_simp
    refine wpSched_nil ?_
    try simp only [List.drop_succ_cons, List.drop_zero, List.drop_nil]
    clear k0 k1 k2 k3 lp
    go_wp2
    go_ret
    exact ⟨by rw [← HFV.out]; simp, HB1.out.drew⟩
end Go.Proofs.YtcikenffeekkeaaGreatDoor

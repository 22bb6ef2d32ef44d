/- Contracts of chapter 14, of the reference: l14Make. -/
import Derived.Test.YtboldkahppdmbaaGreatDoorEB
import Derived.Test.YtboldkahppdmbaaGreatDoorSch
import Derived.Deep.CutRange
import Derived.Deep.DeepCutAuto
namespace Go.Proofs.YtboldkahppdmbaaGreatDoor
open Go.RowKit
set_option linter.unusedVariables false
set_option linter.unusedSimpArgs false
set_option maxHeartbeats 4000000 in
set_option maxRecDepth 100000 in
theorem spec_l14Make (ns us : List Nat) (f : Fm) (A0 A1 : Option Addr) (c0 c1 : Nat) (v : Value) (w : World) (hm : Mdl w (.slice A0 ns.length c0) (.slice A1 6 c1) ns us) (h1 : MdN ns us) (h : Sl cN w v (enc f)) (hok : f.ok = true) (hl : (enc f).length ≤ 40) :
    Calls Tryz.prog 68 #[.agg #[.int .i64 ns.length, .slice A0 ns.length c0, .slice A1 6 c1], v] w
      fun e w' => ∃ cls fst bo inn out, e = .returned (.agg #[.int .i64 ns.length, .slice A0 ns.length c0, .slice A1 6 c1, cls, fst, bo, inn, out]) ∧ Ow cI 2 w.heap.size w' cls (li (acl ns us f)) ∧ Ow cI 2 w.heap.size w' fst (li (afw ns us f)) ∧
        Ow cB 4 w.heap.size w' bo (m1 (mds ns us f (enc f).length)) ∧ Ow cI 2 w.heap.size w' inn (li (m3 (mds ns us f (enc f).length))) ∧ Ow cI 2 w.heap.size w' out (li (m2 (mds ns us f (enc f).length))) ∧ Below w.heap.size w w' := by
  obtain ⟨Af, cf, rfl⟩ := h.opn
  have h8 := h1.r.1
  have hb0 := below_alloc' w (.cells #[.int .i64 ns.length, .slice A0 ns.length c0, .slice A1 6 c1] 28)
  have hk0 := Blk.new w 28 #[.int .i64 ns.length, .slice A0 ns.length c0, .slice A1 6 c1]
  have hb1 := below_alloc' (w.alloc (.cells #[.int .i64 ns.length, .slice A0 ns.length c0, .slice A1 6 c1] 28)) (.cells #[.int .i64 0, .slice none 0 0, .slice none 0 0, .slice none 0 0, .slice none 0 0, .slice none 0 0, .slice none 0 0, .slice none 0 0] 59)
  have hk1 : Blk _ (w.heap.size + 1) _ _ := Blk.new' (w.alloc (.cells #[.int .i64 ns.length, .slice A0 ns.length c0, .slice A1 6 c1] 28)) 59 #[.int .i64 0, .slice none 0 0, .slice none 0 0, .slice none 0 0, .slice none 0 0, .slice none 0 0, .slice none 0 0, .slice none 0 0] (by simp)
  have HB := Lib.hid (bthen hb0 hb1)
  have HK0 := Lib.hid (hk0.below hb1 hk0.lt)
  have HK1 := Lib.hid hk1
  have HM := Lib.hid hm
  have HF := Lib.hid h
  have H1 := Lib.hid h1
  have HP := Lib.hid (fun W (hW : Below w.heap.size w W) => spec_l14Parts _ f W (h.below hW) (by omega))
  clear hb0 hb1 hk0 hk1 hm h
  go_enter Tryz.func68, Tryz.ntmps68
  go_upto_region 1 with fail
  generalize World.alloc (w.alloc _) _ = W at *
  go_wp2_with fail
  refine (HP.out _ HB.out).mono ?_
  rintro e w1 ⟨up, hs, rfl, ho, hhl, hhs, hb⟩
  obtain ⟨Ap, cp, rfl⟩ := ho.opn
  have HPS := Lib.hid ho.sl
  have HHL := Lib.hid hhl
  have HHS := Lib.hid hhs
  have HB1 := Lib.hid (bthen HB.out hb)
  have HK2 := Lib.hid (HK0.out.below hb HK0.out.lt)
  have HK3 := Lib.hid (HK1.out.below hb HK1.out.lt)
  clear ho hhl hhs hb
  rw [HHL.out] at HPS ⊢
  have k0 := HK2.out.cell
  have l0 := HK2.out.lt
  go_wp2
  rw [show w1.heap.size + 1 + 1 = w1.heap.size + 2 from rfl, show w1.heap.size + 2 + 1 = w1.heap.size + 3 from rfl]
  have HS1 : Hid (S1 w1 ((((w1.alloc (.cells #[] 2)).alloc (.cells #[] 2)).alloc (.cells #[] 2)).alloc (.cells #[.int .i64 ns.length, .slice A0 ns.length c0, .slice A1 6 c1, .slice (some ⟨w1.heap.size + 1, 0, none⟩) 0 0, .slice (some ⟨w1.heap.size + 2, 0, none⟩) 0 0, .slice none 0 0, .slice none 0 0, .slice none 0 0] 59)) w1.heap.size (.int .i64 ns.length) (.slice A0 ns.length c0) (.slice A1 6 c1) (.slice (some ⟨w1.heap.size, 0, none⟩) 0 0) (.slice none 0 0) (.slice none 0 0) (.slice none 0 0) (li (tvl ns us f 0)) (li (m3 (mds ns us f 0))) (li (m2 (mds ns us f 0))) (m1 (mds ns us f 0))) := Lib.hid
    ⟨by simp, ((((Below.refl _ _).alloc (Nat.le_refl _) _).alloc (by simp) _).alloc (by simp <;> omega) _).alloc (by simp <;> omega) _, Blk.new' _ _ _ (by simp), ((Blk.new' (w1.alloc (.cells #[] 2)) 2 #[] (by simp)).alloc _).alloc _, (Blk.new' ((w1.alloc (.cells #[] 2)).alloc (.cells #[] 2)) 2 #[] (by simp)).alloc _,
      (((Ow.lit [] rfl rfl (Nat.le_refl _)).alloc _).alloc _).alloc _, fun g hg => by injection hg with hg; exact .inl hg.symm, Ow.nil _ _, Ow.nil _ _, Ow.nil _ _, Sep.nil, Sep.nil, Sep.nil, Sep.nil, Sep.nil, Sep.nil⟩
  have HX : Hid (∀ wr, Below w1.heap.size w1 wr → Blk wr w.heap.size 28 #[.int .i64 ns.length, .slice A0 ns.length c0, .slice A1 6 c1] ∧ Mdl wr (.slice A0 ns.length c0) (.slice A1 6 c1) ns us ∧ Sl cN wr (.slice Af (enc f).length cf) (enc f) ∧ Sl cH wr (.slice Ap hs.length cp) hs) := Lib.hid (fun wr hb => by
    have hbw := HB1.out.trans (hb.mono HB1.out.size)
    exact ⟨HK2.out.below hb l0, HM.out.below hbw, HF.out.below hbw, by rw [HHL.out]; exact HPS.out.below hb⟩)
  generalize World.alloc (World.alloc _ _) _ = V at *
  go_loopw [6, 8] (fun q i wr => ∃ j : Nat, j ≤ (enc f).length ∧ i = .int .i64 j ∧ ∃ bo inn out, S1 w1 wr w1.heap.size (.int .i64 ns.length) (.slice A0 ns.length c0) (.slice A1 6 c1) q bo inn out (li (tvl ns us f j)) (li (m3 (mds ns us f j))) (li (m2 (mds ns us f j))) (m1 (mds ns us f j))) (fun _ i _ => (enc f).length - (intOf i).toNat)
  case atStart => exact ⟨0, Nat.zero_le _, rfl, _, _, _, HS1.out⟩
  case round =>
    obtain ⟨j, hj, rfl, bo, inn, out, hn⟩ := hrel
    clear HS1 k0
    obtain ⟨Am, cm, rfl⟩ := hn.om.opn
    have HLM := Lib.hid (show (li (tvl ns us f j)).length = j by rw [li_length, tvl_length])
    rw [HLM.out] at hn ⊢
    have HN := Lib.hid hn
    obtain ⟨hx, hmd, hfs, hph⟩ := HX.out _ hn.be
    have k0 := hx.cell
    have l1 := hx.lt
    by_cases hlt : j < (enc f).length
    · have hlt' : j < hs.length := by rw [HHL.out]; exact hlt
      obtain ⟨bp, op, rfl, hbp, hh0⟩ := hph.atH hlt'
      have HHJ := Lib.hid (fun W0 h0 => HHS.out W0 h0 j hlt')
      obtain ⟨Aj, nj, cj, hhe⟩ : ∃ a n c, hs[j] = (⟨a, n, c⟩ : Hd) := ⟨_, _, _, rfl⟩
      rw [hhe] at hh0 HHJ
      have HHE := Lib.hid hhe
      have hokj := pt_ok f hok j hlt
      have hlj : (enc (pt f j)).length ≤ 40 := by obtain ⟨r, hr⟩ := pt_drop f j hlt; have := congrArg List.length hr; rw [List.length_drop, List.length_append] at this; omega
      have HT := Lib.hid (fun W (hW : Below w1.heap.size w1 W) => spec_l06Truth ns us A0 A1 c0 c1 H1.out.r H1.out.l H1.out.b (pt f j) hokj (by omega) _ W (HHJ.out W (HX.out W hW).2.2.1) (HX.out W hW).2.1)
      have HTS := Lib.hid (tvl_succ ns us f j)
      obtain ⟨m, hmm⟩ : ∃ m, tv ns us (pt f j) = m := ⟨_, rfl⟩
      rw [hmm] at HTS
      have HMM := Lib.hid hmm
      replace HT : Hid (∀ W, Below w1.heap.size w1 W → Calls Tryz.prog 44 #[.agg #[.int .i64 (ns.length : Int), .slice A0 ns.length c0, .slice A1 6 c1], .slice Aj nj cj] W fun e w' => e = .returned (.int .i64 (m : Nat)) ∧ Below W.heap.size W w') := by rw [← hmm]; exact HT
      clear hmm hhe hn hx hmd hfs hph hokj
      have hxl : (li (tvl ns us f j)).length ≤ 100 := by rw [HLM.out]; omega
      have hl9 : (li (tvl ns us f j) ++ [(m : Int)]).length = j + 1 := by rw [List.length_append, HLM.out]; rfl
      have HXE : Hid (li (tvl ns us f (j + 1)) = li (tvl ns us f j) ++ [(m : Int)]) := Lib.hid (by rw [HTS.out, li_append]; rfl)
      generalize li (tvl ns us f j) = xs at *
      go_upto_region 6 with fail
      go_cut [6] (fun q V => ∃ Aq cq, q = .slice Aq (j + 1) cq ∧ S1 w1 V w1.heap.size (.int .i64 ns.length) (.slice A0 ns.length c0) (.slice A1 6 c1) q bo inn out (li (tvl ns us f (j + 1))) (li (m3 (mds ns us f j))) (li (m2 (mds ns us f j))) (m1 (mds ns us f j)))
      case first =>
        have d0 : wr.cell? ⟨w.heap.size, 0, none⟩ = some (.int .i64 (ns.length : Int)) := k0 0
        have d1 : wr.cell? ⟨w.heap.size, 1, none⟩ = some (.slice A0 ns.length c0) := k0 1
        have d2 : wr.cell? ⟨w.heap.size, 2, none⟩ = some (.slice A1 6 c1) := k0 2
        clear k0
        have hbe : Below w1.heap.size w1 wr.drew := HN.out.be.trans ((Below.refl wr.heap.size wr).drew.mono (by have := HN.out.sz; omega))
        refine wp_region_sched (Below wr.heap.size wr) 8 [0, 1, 2, 3, 4, 5] [0, 1, 2, 3, 4, 5, 6, 7] (by kernel_rfl) (by kernel_rfl) (Below.refl _ _).drew ?_
        repeat
          apply wpSched_q rfl rfl
          case h =>
            intro w' hI K hK
            have d0' := (hI.cell (p := ⟨w.heap.size, 0, none⟩) l1).trans d0
            have d1' := (hI.cell (p := ⟨w.heap.size, 1, none⟩) l1).trans d1
            have d2' := (hI.cell (p := ⟨w.heap.size, 2, none⟩) l1).trans d2
            have hh0' := (hI.cell (p := ⟨bp, op + j, none⟩) hbp).trans hh0
            simp only [quietV, stillV]
            go_simp
            exact hK
          go_simp
        refine wpSched_r rfl rfl ?_ (Below.refl _ _).drew
        intro K hK _
        go_simp
        refine (HT.out _ hbe).mono ?_
        rintro e w6 ⟨rfl, hb⟩
        have hb6 : Below wr.heap.size wr w6 := (Below.refl _ _).drew.trans hb
        refine hK _ _ hb6 ?_
        clear hK K
        have HN6 := Lib.hid (HN.out.below hb6)
        refine wpSched_r rfl rfl ?_ hb6
        intro K hK _
        go_simp
        refine hK _ _ (hb6.alloc hb6.size _) ?_
        clear hK K hb hb6
        refine wpSched_nil ?_
        try simp only [List.drop_succ_cons, List.drop_zero]
        refine ap_one (K := cI) _ ty_int64 rfl _ _ rfl (B := w1.heap.size) (xs := xs) rfl HN6.out.om (m : Int) rfl rfl (by omega) (by have := HN6.out.sz; omega) ?_
        intro v1 w7 ho1 hg1 hb1 hat1
        obtain ⟨Aq, cq, rfl⟩ := ho1.opn
        have hnM := HN6.out.pushM ho1 hg1 hb1 hat1
        rw [hl9] at hnM ⊢
        rw [← HXE.out] at hnM
        have HNM := Lib.hid hnM
        clear ho1 hg1 hb1 hat1 hnM l1 hh0 d0 d1 d2
        go_wp2_with fail
        go_meet
        exact ⟨_, _, rfl, HNM.out⟩
      case rest =>
        obtain ⟨Aq, cq, rfl, hq⟩ := hcut
        clear HN HXE HLM hl9 hxl
        have HN := Lib.hid hq
        obtain ⟨hx, hmd, hfs, hph⟩ := HX.out _ hq.be
        have k0 := hx.cell
        have l1 := hx.lt
        obtain ⟨bp', op', hA', hbp, hh0⟩ := hph.atH hlt'
        injection hA' with hA'
        injection hA' with hA1 hA2
        subst hA1; subst hA2
        rw [HHE.out] at hh0
        obtain rfl : nj = (enc (pt f j)).length := (HHJ.out _ hfs).cap.1
        have hpj := enc_pos (pt f j)
        obtain ⟨bj, oj, rfl, hbj, n0, n1⟩ := (HHJ.out _ hfs).atN (enc_pos (pt f j))
        rw [enc_head] at n0
        rw [Nat.zero_mul, Nat.add_zero] at n0
        clear hq hx hmd hfs hph n1
        cases hp : pt f j with
        | var t =>
            rw [hp] at n0 hpj
            have HMS : Hid (mds ns us f (j + 1) = mds ns us f j) := Lib.hid (by rw [mds, hp]; simp)
            simp only [hnd, BK.i] at n0
            go_wp2
            go_roundw
            case rel => exact ⟨j + 1, by omega, by go_num, _, _, _, by rw [HMS.out]; exact HN.out⟩
            case measure => simp [intOf]; omega
        | fls =>
            rw [hp] at n0 hpj
            have HMS : Hid (mds ns us f (j + 1) = mds ns us f j) := Lib.hid (by rw [mds, hp]; simp)
            simp only [hnd, BK.i] at n0
            go_wp2
            go_roundw
            case rel => exact ⟨j + 1, by omega, by go_num, _, _, _, by rw [HMS.out]; exact HN.out⟩
            case measure => simp [intOf]; omega
        | bin k a c =>
          cases k
          all_goals
            rw [hp] at n0 hpj
            have HMS : Hid (mds ns us f (j + 1) = mds ns us f j) := Lib.hid (by rw [mds, hp]; simp)
            simp only [hnd, BK.i] at n0
            go_wp2
            go_roundw
            case rel => exact ⟨j + 1, by omega, by go_num, _, _, _, by rw [HMS.out]; exact HN.out⟩
            case measure => simp [intOf]; omega
        | un k a =>
            rw [hp] at n0 hpj hh0 HHE
            obtain ⟨ma, hma⟩ : ∃ ma, tv ns us a = ma := ⟨_, rfl⟩
            simp only [hnd] at n0
            have e0 := HMM.out
            rw [hp] at e0
            have HMJ : Hid ((tvl ns us f (j + 1)).getD j 0 = m) := Lib.hid ((tvl_getD ns us f (Nat.lt_succ_self j)).trans HMM.out)
            have HMS : Hid (mds ns us f (j + 1) = mds ns us f j ++ [((k.i == 5), m, ma)]) := Lib.hid (by rw [mds, hp]; cases k <;> simp only [e0, hma] <;> rfl)
            have HM1 : Hid (m1 (mds ns us f (j + 1)) = m1 (mds ns us f j) ++ [(k.i == 5)]) := Lib.hid (by rw [HMS.out]; simp [m1])
            have HM2 : Hid (li (m2 (mds ns us f (j + 1))) = li (m2 (mds ns us f j)) ++ [(m : Int)]) := Lib.hid (by rw [HMS.out]; simp [m2, li])
            have HM3 : Hid (li (m3 (mds ns us f (j + 1))) = li (m3 (mds ns us f j)) ++ [(ma : Int)]) := Lib.hid (by rw [HMS.out]; simp [m3, li])
            have hml := mds_length ns us f j
            have L1 : (m1 (mds ns us f j)).length ≤ 100 := by simp [m1]; omega
            have L2 : (li (m2 (mds ns us f j))).length ≤ 100 := by rw [li_length]; simp [m2]; omega
            have L3 : (li (m3 (mds ns us f j))).length ≤ 100 := by rw [li_length]; simp [m3]; omega
            have HJ : Hid (∀ W, Below w1.heap.size w1 W → Sl cN W (.slice (some ⟨bj, oj, none⟩) (enc (Fm.un k a)).length cj) (enc (Fm.un k a))) := Lib.hid (fun W hW => by have := HHJ.out W (HX.out W hW).2.2.1; rwa [hp] at this)
            have hok2 := pt_ok f hok j hlt
            rw [hp] at hok2
            have HT2 : Hid (∀ W, Below w1.heap.size w1 W → Calls Tryz.prog 44 #[.agg #[.int .i64 (ns.length : Int), .slice A0 ns.length c0, .slice A1 6 c1], .slice (some ⟨bj, oj + 2, none⟩) ((enc (Fm.un k a)).length - 1) (cj - 1)] W fun e w' => e = .returned (.int .i64 (ma : Nat)) ∧ Below W.heap.size W w') := Lib.hid (fun W hW => by
              rw [hp] at hlj
              rw [enc, List.length_cons] at hlj
              rw [← hma]
              exact spec_l06Truth ns us A0 A1 c0 c1 H1.out.r H1.out.l H1.out.b a hok2 (by omega) _ W (HJ.out W hW).tl.1 (HX.out W hW).2.1)
            obtain ⟨-, hc1, hc2, hc3⟩ := (HJ.out _ HN.out.be).tl
            clear hma e0 HMM HMS hml HJ hok2
            have HK5 : Hid (k.i = 5 ∨ k.i = 6) := Lib.hid (by cases k <;> simp [UK.i])
            clear hp
            generalize m1 (mds ns us f j) = X1 at *
            generalize li (m2 (mds ns us f j)) = X2 at *
            generalize li (m3 (mds ns us f j)) = X3 at *
            generalize (enc (Fm.un k a)).length = L at *
            have i1 : (1 : Int) ≤ (L : Int) := by omega
            have i2 : (0 : Int) < (L : Int) := by omega
            have i4 : ¬ cj = 1 := by omega
            obtain ⟨Ab, cb, rfl⟩ := HN.out.ob.opn
            have kP := HN.out.pb.cell
            have lP := HN.out.pb.lt
            clear HTS
            generalize k.i = kd at *
            go_upto_region 8 with fail
            go_cut [49] (fun t V => t = .bool true ∧ V = wc)
            case first =>
              have h5 := HK5.out
              clear HM1
              rcases h5 with rfl | rfl
              all_goals
                go_wp2_with fail
                go_meet
                exact ⟨rfl, rfl⟩
            case rest =>
            obtain ⟨rfl, rfl⟩ := hcut
            go_wp2_with (at_builtin; refine stopHere ?_)
            refine goHere ?_
            refine ap_one (K := cB) _ ty_bool rfl _ _ rfl (B := w1.heap.size + 4) (xs := X1) rfl HN.out.ob (kd == 5) rfl rfl (by omega) HN.out.sz ?_
            intro v1 w7 ho1 hg1 hb1 hat1
            obtain ⟨A9, c9, rfl⟩ := ho1.opn
            have hk9 := (HN.out.pb.alloc _).grown hg1 (fun e => by have := (HN.out.ob.block _ e.symm).1; omega)
            have kc9 := hk9.cell
            have kf9 := hk9.frozen
            have kl9 := hk9.lt
            have Z := HN.out.pushB ho1 hg1 hb1 hat1
            have HN5 := Lib.hid Z
            clear ho1 hg1 hb1 hat1 hk9 Z kP lP k0 l1 hh0 n0 hbj
            go_upto_region 10 with fail
            rw [show (X1 ++ [(kd == 5)]).length = X1.length + 1 by simp] at HN5
            generalize World.setCell w7 _ _ = w8 at *
            obtain ⟨Ai, ci, rfl⟩ := HN5.out.oi.opn
            obtain ⟨hx, hmd, hfs, hph⟩ := HX.out _ HN5.out.be
            have k0 := hx.cell
            have l1 := hx.lt
            obtain ⟨bp', op', hA', hbp2, hh0⟩ := hph.atH hlt'
            injection hA' with hA'
            injection hA' with hA1 hA2
            subst hA1; subst hA2
            rw [HHE.out] at hh0
            have kP := HN5.out.pb.cell
            have lP := HN5.out.pb.lt
            clear hx hmd hfs hph
            go_cut [6] (fun q V => q = .slice Aq (j + 1) cq ∧ ∃ inn', S1 w1 V w1.heap.size (.int .i64 ns.length) (.slice A0 ns.length c0) (.slice A1 6 c1) q (.slice A9 (X1.length + 1) c9) inn' out (li (tvl ns us f (j + 1))) (X3 ++ [(ma : Int)]) X2 (X1 ++ [(kd == 5)]))
            case first =>
              have hbp1 : bp < w1.heap.size := by
                obtain ⟨b', o', hA', hb', -⟩ := (HX.out w1 (Below.refl _ _)).2.2.2.atH hlt'
                injection hA' with hA'
                injection hA' with hA1 hA2
                subst hA1; exact hb'
              have p6 : w8.cell? ⟨w1.heap.size + 3, 6, none⟩ = some (.slice Ai X3.length ci) := kP 6
              have d0 : w8.cell? ⟨w.heap.size, 0, none⟩ = some (.int .i64 (ns.length : Int)) := k0 0
              have d1 : w8.cell? ⟨w.heap.size, 1, none⟩ = some (.slice A0 ns.length c0) := k0 1
              have d2 : w8.cell? ⟨w.heap.size, 2, none⟩ = some (.slice A1 6 c1) := k0 2
              clear kP k0
              have hbe : Below w1.heap.size w1 w8.drew := HN5.out.be.trans ((Below.refl w8.heap.size w8).drew.mono (by have := HN5.out.sz; omega))
              refine wp_region_sched (Below w8.heap.size w8) 10 [0, 1, 2, 3, 4, 5, 6, 7] [0, 1, 2, 3, 4, 5, 6, 7, 8, 9] (by kernel_rfl) (by kernel_rfl) (Below.refl _ _).drew ?_
              repeat
                apply wpSched_q rfl rfl
                case h =>
                  intro w' hI K hK
                  have p6' := (hI.cell (p := ⟨w1.heap.size + 3, 6, none⟩) lP).trans p6
                  have d0' := (hI.cell (p := ⟨w.heap.size, 0, none⟩) l1).trans d0
                  have d1' := (hI.cell (p := ⟨w.heap.size, 1, none⟩) l1).trans d1
                  have d2' := (hI.cell (p := ⟨w.heap.size, 2, none⟩) l1).trans d2
                  have hh0' := (hI.cell (p := ⟨bp, op + j, none⟩) (by show bp < w8.heap.size; omega)).trans hh0
                  simp only [quietV, stillV]
                  go_simp
                  exact hK
                go_simp
              refine wpSched_r rfl rfl ?_ (Below.refl _ _).drew
              intro K hK _
              go_simp
              refine (HT2.out _ hbe).mono ?_
              rintro e w6 ⟨rfl, hb⟩
              have hb6 : Below w8.heap.size w8 w6 := (Below.refl _ _).drew.trans hb
              refine hK _ _ hb6 ?_
              clear hK K
              have HN6 := Lib.hid (HN5.out.below hb6)
              refine wpSched_r rfl rfl ?_ hb6
              intro K hK _
              go_simp
              refine hK _ _ (hb6.alloc hb6.size _) ?_
              clear hK K hb hb6
              refine wpSched_nil ?_
              try simp only [List.drop_succ_cons, List.drop_zero]
              refine ap_one (K := cI) _ ty_int64 rfl _ _ rfl (B := w1.heap.size + 4) (xs := X3) rfl HN6.out.oi (ma : Int) rfl rfl (by omega) HN6.out.sz ?_
              intro v2 w9 ho2 hg2 hb2 hat2
              have Z := HN6.out.pushI ho2 hg2 hb2 hat2
              have hk9 := (HN6.out.pb.alloc _).grown hg2 (fun e => by have := (HN6.out.oi.block _ e.symm).1; omega)
              obtain ⟨A8, c8, rfl⟩ := ho2.opn
              have hl9 : (X3 ++ [(ma : Int)]).length = X3.length + 1 := by simp
              rw [hl9] at Z ⊢
              have kc9 := hk9.cell
              have kf9 := hk9.frozen
              have kl9 := hk9.lt
              have HZ := Lib.hid Z
              clear ho2 hg2 hb2 hat2 hk9 Z hl9
              go_wp2
              go_meet
              exact ⟨rfl, _, HZ.out⟩
            case rest =>
              obtain ⟨rfl, inn', hq⟩ := hcut
              have HN6 := Lib.hid hq
              obtain ⟨Ao, co, rfl⟩ := hq.oo.opn
              have p7 := hq.pb.cell 7
              rw [show (#[Value.int .i64 (ns.length : Int), .slice A0 ns.length c0, .slice A1 6 c1, .slice (some ⟨w1.heap.size + 1, 0, none⟩) 0 0, .slice (some ⟨w1.heap.size + 2, 0, none⟩) 0 0, .slice A9 (X1.length + 1) c9, inn', .slice Ao X2.length co] : Array Value)[7]? = some (.slice Ao X2.length co) from rfl] at p7
              have lP := hq.pb.lt
              obtain ⟨bm, om, hAm, hbm, hm0⟩ := (show Sl cI _ (.slice Aq (li (tvl ns us f (j + 1))).length cq) (li (tvl ns us f (j + 1))) by rw [li_length, tvl_length]; exact hq.om.sl).atI (k := j) (by rw [li_length, tvl_length]; omega)
              subst hAm
              rw [li_get, HMJ.out] at hm0
              clear hq k0 hh0
              try clear HP
              try clear HS1
              try clear HPS
              try clear HHE
              try clear HHJ
              try clear HTS
              try clear HT
              try clear HT2
              try clear HKD
              try clear HMM
              try clear HMJ
              try clear HM
              try clear HF
              try clear HB
              try clear HK0
              try clear HK2
              try clear HHS
              try clear kc9
              try clear kf9
              try clear kl9
              try clear HN5
              try clear p6
              try clear d0
              try clear d1
              try clear d2
              have HN7 := Lib.hid (HN6.out.below (Below.refl _ _).drew)
              clear HN6
              try clear HX
              try clear HKD
              try clear HK5
              have p7d : (World.drew wc).cell? ⟨w1.heap.size + 3, 7, none⟩ = some (.slice Ao X2.length co) := p7
              have hm0d : (World.drew wc).cell? ⟨bm, om + j, none⟩ = some (.int .i64 (m : Nat)) := hm0
              have i9 : (j : Int) < (j : Int) + 1 := by omega
              go_upto_region 11 with fail
              go_region_law (refine step_one (K := cI) _ ty_int64 rfl _ _ rfl (B := w1.heap.size + 4) (xs := X2) (by simp [Act.eval, Act.put]; done) HN7.out.oo (m : Int) rfl (by simp [Act.eval, Act.put]; done) (by omega) HN7.out.sz ?_; intro v2 w9 ho2 hg2 hb2 hat2; obtain ⟨A8, c8, rfl⟩ := ho2.opn; have hk9 := (HN7.out.pb.alloc _).grown hg2 (fun e => by have := (HN7.out.oo.block _ e.symm).1; omega); have kc9 : w9.cell? ⟨w1.heap.size + 3, 7, none⟩ = some (.slice Ao X2.length co) := hk9.cell 7; have kf9 : w9.frozen? ⟨w1.heap.size + 3, 7, none⟩ = false := hk9.frozen 7; have kl9 := hk9.lt)
              all_goals
                have Z := HN7.out.pushO ho2 hg2 hb2 hat2
                have hl9 : (X2 ++ [(m : Int)]).length = X2.length + 1 := by simp
                rw [hl9] at Z
                have HZ := Lib.hid Z
                clear ho2 hg2 hb2 hat2 hk9 kc9 kf9 p7d hm0d p7 hm0 Z hl9
                go_wp2
                go_roundw
                case rel => exact ⟨j + 1, by omega, by go_num, _, _, _, by rw [HM1.out, HM2.out, HM3.out]; exact HZ.out⟩
                case measure => simp [intOf]; omega
    · obtain rfl : j = (enc f).length := by omega
      have HS2 := Lib.hid HN.out.two
      have HTL := Lib.hid (show (li (tvl ns us f (enc f).length)).length = (enc f).length by rw [li_length, tvl_length])
      obtain ⟨N, hN⟩ : ∃ N, (enc f).length = N := ⟨_, rfl⟩
      have hX1 : Hid (∀ wr, Below w1.heap.size w1 wr → Blk wr w.heap.size 28 #[.int .i64 ns.length, .slice A0 ns.length c0, .slice A1 6 c1]) := Lib.hid (fun wr hb => (HX.out wr hb).1)
      obtain ⟨B3, hB3⟩ : ∃ B, wr.heap.size = B := ⟨_, rfl⟩
      have hT := Lib.hid (fun i x (_ : i < N) => show tb ns us f i x = (tv ns us (pt f i)).testBit x from rfl)
      have hTV : Hid (∀ i, tv ns us (pt f i) < 256) := Lib.hid (fun i => Nat.lt_of_lt_of_le (tv_lt ns us H1.out.b _) (two_pow_256 h8))
      have hTG : Hid (∀ i, i < N → (tvl ns us f N).getD i 0 = tv ns us (pt f i)) := Lib.hid (fun i hi => tvl_getD ns us f hi)
      have HD := Lib.hid (fun x => dvd_fw (ky ns us f N) x)
      have HFL := Lib.hid (fun x => fw_length (ky ns us f N) x)
      have HDL := Lib.hid (fun x => dvd_length (ky ns us f N) x)
      have HDC := Lib.hid (fun x => dvd_count (ky ns us f N) x)
      have HE0 : Hid (acl ns us f = (dvd (ky ns us f N) ns.length).1) := Lib.hid (by unfold acl; rw [hN])
      have HE1 : Hid (afw ns us f = fw (ky ns us f N) ns.length) := Lib.hid (by unfold afw; rw [hN])
      rw [hN] at HS2 HTL hl
      rw [hB3] at HS2
      have HEN := Lib.hid hN
      clear HN hx hmd hfs hph l1 hn HLM hlt hj hN
      rw [HEN.out]
      have k0 := (hX1.out _ HS2.out.be).cell
      have l1 := (hX1.out _ HS2.out.be).lt
      clear HX HPS HHL HHS HP
      have HMG : Hid (∀ i (h : i < (li (tvl ns us f N)).length), (li (tvl ns us f N))[i] = ((tv ns us (pt f i) : Nat) : Int)) := Lib.hid (fun i h => by rw [li_get, tvl_getD _ _ _ (by rw [li_length, tvl_length] at h; exact h)])
      generalize li (tvl ns us f N) = MS at *
      have HQ1 := Lib.hid (fun m (hm : m < 256) x (hx : x ≤ 8) W n => q_bit (m := m) (i := x) (by omega) (by omega) W n)
      go_wp2
      go_loopw [10] (fun xv wq => ∃ x : Nat, x ≤ ns.length ∧ xv = .int .i64 x ∧ ∃ cls fst, S2 w1 wq w1.heap.size B3 (.int .i64 ns.length) (.slice A0 ns.length c0) (.slice A1 6 c1) (.slice Am N cm) cls fst bo inn out MS (li (m3 (mds ns us f N))) (li (m2 (mds ns us f N))) (li (dvd (ky ns us f N) x).1) (li (fw (ky ns us f N) x)) (m1 (mds ns us f N))) (fun xv _ => ns.length - (intOf xv).toNat)
      case atStart => exact ⟨0, Nat.zero_le _, rfl, _, _, HS2.out⟩
      case round =>
        obtain ⟨x, hx, rfl, cls, fst, hs2⟩ := hrel
        clear HS2 k0 l1
        obtain ⟨Ac, cc, rfl⟩ := hs2.oc.opn
        obtain ⟨Af2, cf2, rfl⟩ := hs2.of.opn
        have HL1 := Lib.hid (show (li (dvd (ky ns us f N) x).1).length = x by rw [li_length]; exact HDL.out x)
        obtain ⟨F, hF⟩ : ∃ F, (fw (ky ns us f N) x).length = F := ⟨_, rfl⟩
        have HL2 := Lib.hid (show (li (fw (ky ns us f N) x)).length = F by rw [li_length, hF])
        have hFx : F ≤ x := by rw [← hF, HFL.out x]; exact HDC.out x
        have HFF := Lib.hid hF
        rw [HL1.out, HL2.out] at hs2
        have HS := Lib.hid hs2
        have k0 := (hX1.out _ hs2.be).cell
        have l1 := (hX1.out _ hs2.be).lt
        clear hs2 hF
        by_cases hxn : x < ns.length
        · have p3 : wr.cell? ⟨w1.heap.size + 3, 4, none⟩ = some (.slice Af2 F cf2) := HS.out.pb.cell 4
          have lp := HS.out.pb.lt
          have hHD : Hid (∀ k, k < F → (fw (ky ns us f N) x).getD k 0 < x) := Lib.hid (fun k hk => ((HD.out x).2.1 k (by rw [← HFL.out x, HFF.out]; exact hk)).1)
          go_wp2
          clear k0 p3 lp l1
          go_loopw [11, 12] (fun cl kv wq => ∃ k : Nat, k ≤ F ∧ kv = .int .i64 k ∧ S2 w1 wq w1.heap.size B3 (.int .i64 ns.length) (.slice A0 ns.length c0) (.slice A1 6 c1) (.slice Am N cm) (.slice Ac x cc) (.slice Af2 F cf2) bo inn out MS (li (m3 (mds ns us f N))) (li (m2 (mds ns us f N))) (li (dvd (ky ns us f N) x).1) (li (fw (ky ns us f N) x)) (m1 (mds ns us f N)) ∧
            ((cl = .int .i64 (-1) ∧ ∀ i, i < k → ¬ ky ns us f N ((fw (ky ns us f N) x).getD i 0) = ky ns us f N x) ∨ (∃ i : Nat, i < F ∧ cl = .int .i64 i ∧ ky ns us f N ((fw (ky ns us f N) x).getD i 0) = ky ns us f N x))) (fun _ kv _ => F - (intOf kv).toNat)
          case atStart => exact ⟨0, Nat.zero_le _, rfl, HS.out, .inl ⟨rfl, fun i hi => by omega⟩⟩
          case round =>
            obtain ⟨k, hk, rfl, hs3, hor⟩ := hrel
            clear HS
            have HS := Lib.hid hs3
            have p3 : wr.cell? ⟨w1.heap.size + 3, 4, none⟩ = some (.slice Af2 F cf2) := hs3.pb.cell 4
            have lp := hs3.pb.lt
            clear hs3
            rcases hor with ⟨rfl, hno⟩ | ⟨i, hi, rfl, hke⟩
            · by_cases hkF : k < F
              · have HNO := Lib.hid hno
                clear hno
                obtain ⟨z, hz⟩ : ∃ z, (fw (ky ns us f N) x).getD k 0 = z := ⟨_, rfl⟩
                have hzx : z < x := by rw [← hz]; exact hHD.out k hkF
                have HZ := Lib.hid hz
                clear hz
                go_wp2
                clear p3 lp
                go_loopw [13, 14] (fun al iv wq => ∃ i : Nat, i ≤ N ∧ iv = .int .i64 i ∧ al = .bool (alk ns us f x z i) ∧ S2 w1 wq w1.heap.size B3 (.int .i64 ns.length) (.slice A0 ns.length c0) (.slice A1 6 c1) (.slice Am N cm) (.slice Ac x cc) (.slice Af2 F cf2) bo inn out MS (li (m3 (mds ns us f N))) (li (m2 (mds ns us f N))) (li (dvd (ky ns us f N) x).1) (li (fw (ky ns us f N) x)) (m1 (mds ns us f N))) (fun _ iv _ => N - (intOf iv).toNat)
                case atStart => exact ⟨0, Nat.zero_le _, rfl, rfl, HS.out⟩
                case round =>
                  obtain ⟨i, hi, rfl, rfl, hs4⟩ := hrel
                  clear HS
                  have HS := Lib.hid hs4
                  have p3 : wr.cell? ⟨w1.heap.size + 3, 4, none⟩ = some (.slice Af2 F cf2) := hs4.pb.cell 4
                  have lp := hs4.pb.lt
                  have HAS := Lib.hid (alk_succ ns us f x z i)
                  by_cases hiN : i < N
                  · obtain ⟨b3, o3, rfl, hb3, f0⟩ := (show Sl cI wr (.slice Af2 (li (fw (ky ns us f N) x)).length cf2) _ by rw [HL2.out]; exact hs4.of.sl).atI (k := k) (by rw [HL2.out]; exact hkF)
                    obtain ⟨b4, o4, rfl, hb4, m0⟩ := (show Sl cI wr (.slice Am MS.length cm) _ by rw [HTL.out]; exact hs4.om.sl).atI (k := i) (by rw [HTL.out]; exact hiN)
                    rw [li_get, HZ.out] at f0
                    rw [HMG.out] at m0
                    obtain ⟨m, hm⟩ : ∃ m, tv ns us (pt f i) = m := ⟨_, rfl⟩
                    have hm8 : m < 256 := by rw [← hm]; exact hTV.out i
                    have HA2 : Hid (alk ns us f x z (i + 1) = (alk ns us f x z i && (m.testBit x == m.testBit z))) := Lib.hid (by rw [← hm]; exact HAS.out)
                    rw [hm] at m0
                    have HB1' := Lib.hid (fun n => HQ1.out m hm8 x (by omega) wr n)
                    have HB2' := Lib.hid (fun n => HQ1.out m hm8 z (by omega) wr n)
                    have i1 : (i : Int) < (N : Int) := by omega
                    have i2 : (k : Int) < (F : Int) := by omega
                    clear hm HAS hs4
                    generalize alk ns us f x z i = al at *
                    generalize m.testBit x = e1 at *
                    generalize m.testBit z = e2 at *
                    cases al
                    · go_wp2
                      go_quiet (fail)
                      go_wp2
                      go_roundw
                      case rel => exact ⟨i + 1, by omega, by go_num, by rw [HA2.out]; rfl, HS.out.below (below_drewN (Below.refl _ _) _)⟩
                      case measure => simp [intOf]; omega
                    · cases e1 <;> cases e2
                      all_goals
                        go_wp2
                        go_quiet ((go_at_call 32; first | with_reducible exact HB1'.out _ | with_reducible exact HB2'.out _))
                        go_wp2
                        go_roundw
                        case rel => exact ⟨i + 1, by omega, by go_num, by rw [HA2.out]; rfl, HS.out.below (below_drewN (Below.refl _ _) _)⟩
                        case measure => simp [intOf]; omega
                  · obtain rfl : i = N := by omega
                    have HAK := Lib.hid (alk_ky ns us f x z i)
                    clear hs4 HAS
                    cases hal : alk ns us f x z i
                    · have HNE : Hid (∀ q, q < k + 1 → ¬ ky ns us f i ((fw (ky ns us f i) x).getD q 0) = ky ns us f i x) := Lib.hid (fun q hq => by
                        rcases Nat.lt_or_ge q k with h | h
                        · exact HNO.out q h
                        · obtain rfl : q = k := by omega
                          rw [HZ.out]
                          have := HAK.out
                          rw [hal] at this
                          exact of_decide_eq_false this.symm)
                      clear hal
                      go_wp2
                      go_roundw
                      case rel => exact ⟨k + 1, by omega, by go_num, HS.out, .inl ⟨rfl, HNE.out⟩⟩
                      case measure => simp [intOf]; omega
                    · have HEQ : Hid (ky ns us f i ((fw (ky ns us f i) x).getD k 0) = ky ns us f i x) := Lib.hid (by
                        rw [HZ.out]
                        have := HAK.out
                        rw [hal] at this
                        exact of_decide_eq_true this.symm)
                      clear hal
                      go_wp2
                      go_roundw
                      case rel => exact ⟨k + 1, by omega, by go_num, HS.out, .inr ⟨k, hkF, rfl, HEQ.out⟩⟩
                      case measure => simp [intOf]; omega
              · obtain rfl : k = F := by omega
                have HMS := Lib.hid (fw_miss (ky ns us f N) x (fun q hq => hno q (by rw [HFF.out] at hq; exact hq)))
                have HDE : Hid (li (dvd (ky ns us f N) (x + 1)).1 = li (dvd (ky ns us f N) x).1 ++ [(k : Int)]) := Lib.hid (by rw [HMS.out.1, HFF.out]; exact li_append _ _)
                have HFE : Hid (li (fw (ky ns us f N) (x + 1)) = li (fw (ky ns us f N) x) ++ [(x : Int)]) := Lib.hid (by rw [HMS.out.2]; exact li_append _ _)
                clear hno HMS
                go_upto_region 28 with fail
                go_wp2_with (at_builtin; refine stopHere ?_)
                refine goHere ?_
                refine ap_one (K := cI) _ ty_int64 rfl _ _ rfl (B := w1.heap.size + 1) (xs := li (fw (ky ns us f N) x)) rfl HS.out.of (x : Int) rfl rfl (by rw [HL2.out]; omega) (by have := HS.out.sz; have := HS.out.gb; omega) ?_
                intro v1 w7 ho1 hg1 hb1 hat1
                have Z := HS.out.pushF ho1 hg1 hb1 hat1
                have hk9 := (HS.out.pb.alloc _).grown hg1 (fun e => by have := HS.out.fb _ e.symm; have := HS.out.gb; omega)
                obtain ⟨A9, c9, rfl⟩ := ho1.opn
                have hl9 : (li (fw (ky ns us f N) x) ++ [(x : Int)]).length = k + 1 := by rw [List.length_append, HL2.out]; rfl
                rw [hl9] at Z ⊢
                clear hl9
                have p3 := hk9.cell
                have f3 := hk9.frozen
                have lp := hk9.lt
                have HS5 := Lib.hid Z
                clear ho1 hg1 hb1 hat1 hk9 Z
                go_upto_region 29 with fail
                generalize World.setCell w7 _ _ = w8 at *
                clear p3 f3 lp
                have p3 := HS5.out.pb.cell
                have lp := HS5.out.pb.lt
                go_wp2_with (at_builtin; refine stopHere ?_)
                refine goHere ?_
                refine ap_one (K := cI) _ ty_int64 rfl _ _ rfl (B := w1.heap.size + 1) (xs := li (dvd (ky ns us f N) x).1) rfl HS5.out.oc (k : Int) rfl rfl (by rw [HL1.out]; omega) (by have := HS5.out.sz; have := HS5.out.gb; omega) ?_
                intro v2 w9 ho1 hg1 hb1 hat1
                obtain ⟨A8, c8, rfl⟩ := ho1.opn
                have hl9 : (li (dvd (ky ns us f N) x).1 ++ [(k : Int)]).length = x + 1 := by rw [List.length_append, HL1.out]; rfl
                rw [hl9] at ho1 hat1 ⊢
                clear hl9
                have Z := HS5.out.pushC ho1 hg1 hb1 hat1
                have hk9 := (HS5.out.pb.alloc _).grown hg1 (fun e => by have := HS5.out.cb _ e.symm; have := HS5.out.gb; omega)
                clear p3 lp
                have p3 := hk9.cell
                have f3 := hk9.frozen
                have lp := hk9.lt
                have HS6 := Lib.hid Z
                clear ho1 hg1 hb1 hat1 hk9 Z
                go_wp2
                go_roundw
                case rel => exact ⟨x + 1, by omega, by go_num, _, _, by rw [HDE.out, HFE.out]; exact HS6.out⟩
                case measure => simp [intOf]; omega
            · have HMS := Lib.hid (fw_hit (ky ns us f N) x i (by rw [HFF.out]; exact hi) hke)
              have HDE : Hid (li (dvd (ky ns us f N) (x + 1)).1 = li (dvd (ky ns us f N) x).1 ++ [(i : Int)]) := Lib.hid (by rw [HMS.out.1]; exact li_append _ _)
              have HFE : Hid (li (fw (ky ns us f N) (x + 1)) = li (fw (ky ns us f N) x)) := Lib.hid (by rw [HMS.out.2])
              clear hke HMS
              have hd1 : decide ((i : Int) < 0) = false := decide_eq_false (by omega)
              by_cases hkF : k < F
              all_goals
                go_upto_region 29 with fail
                clear p3 lp
                have p3 := HS.out.pb.cell
                have lp := HS.out.pb.lt
                go_wp2_with (at_builtin; refine stopHere ?_)
                refine goHere ?_
                refine ap_one (K := cI) _ ty_int64 rfl _ _ rfl (B := w1.heap.size + 1) (xs := li (dvd (ky ns us f N) x).1) rfl HS.out.oc (i : Int) rfl rfl (by rw [HL1.out]; omega) (by have := HS.out.sz; have := HS.out.gb; omega) ?_
                intro v2 w9 ho1 hg1 hb1 hat1
                obtain ⟨A8, c8, rfl⟩ := ho1.opn
                have hl9 : (li (dvd (ky ns us f N) x).1 ++ [(i : Int)]).length = x + 1 := by rw [List.length_append, HL1.out]; rfl
                rw [hl9] at ho1 hat1 ⊢
                clear hl9
                have Z := HS.out.pushC ho1 hg1 hb1 hat1
                have hk9 := (HS.out.pb.alloc _).grown hg1 (fun e => by have := HS.out.cb _ e.symm; have := HS.out.gb; omega)
                clear p3 lp
                have p3 := hk9.cell
                have f3 := hk9.frozen
                have lp := hk9.lt
                have HS6 := Lib.hid Z
                clear ho1 hg1 hb1 hat1 hk9 Z
                go_wp2
                go_roundw
                case rel => exact ⟨x + 1, by omega, by go_num, _, _, by rw [HDE.out, HFE.out]; exact HS6.out⟩
                case measure => simp [intOf]; omega
        · obtain rfl : x = ns.length := by omega
          have hr := HK3.out.below (B := w1.heap.size) HS.out.be HK3.out.lt
          have rc := hr.cell
          have rf := hr.frozen
          have rl := hr.lt
          have p3 := HS.out.pb.cell
          have lp := HS.out.pb.lt
          have HW1 : Hid (w.heap.size + 1 < w1.heap.size) := Lib.hid HK3.out.lt
          clear hr
          obtain ⟨Ab, nb, cb, rfl⟩ : ∃ a n c, bo = .slice a n c := by obtain ⟨a, c, e⟩ := HS.out.ob.opn; exact ⟨a, _, c, e⟩
          obtain ⟨Ai, ni, ci, rfl⟩ : ∃ a n c, inn = .slice a n c := by obtain ⟨a, c, e⟩ := HS.out.oi.opn; exact ⟨a, _, c, e⟩
          obtain ⟨Ao, no, co, rfl⟩ : ∃ a n c, out = .slice a n c := by obtain ⟨a, c, e⟩ := HS.out.oo.opn; exact ⟨a, _, c, e⟩
          go_wp2
          refine bodyPost_ret (v := .agg #[.int .i64 ns.length, .slice A0 ns.length c0, .slice A1 6 c1, .slice Ac ns.length cc, .slice Af2 F cf2, .slice Ab nb cb, .slice Ai ni ci, .slice Ao no co]) (by simp [results, Tryz.results68, go_sem, rc, rf, rl]) rfl ⟨_, _, _, _, _, rfl, ?_, ?_, ?_, ?_, ?_, ?_⟩
          · rw [HE0.out]
            refine Ow.mono (B := w1.heap.size + 1) ?_ (by have := HW1.out; omega)
            iterate 8 refine Ow.setBelow ?_ (by show w.heap.size + 1 < w1.heap.size + 1; have := HW1.out; omega) _
            exact HS.out.oc
          · rw [HE1.out]
            refine Ow.mono (B := w1.heap.size + 1) ?_ (by have := HW1.out; omega)
            iterate 8 refine Ow.setBelow ?_ (by show w.heap.size + 1 < w1.heap.size + 1; have := HW1.out; omega) _
            exact HS.out.of
          · rw [HEN.out]
            refine Ow.mono (B := w1.heap.size + 4) ?_ (by have := HW1.out; omega)
            iterate 8 refine Ow.setBelow ?_ (by show w.heap.size + 1 < w1.heap.size + 4; have := HW1.out; omega) _
            exact HS.out.ob
          · rw [HEN.out]
            refine Ow.mono (B := w1.heap.size + 4) ?_ (by have := HW1.out; omega)
            iterate 8 refine Ow.setBelow ?_ (by show w.heap.size + 1 < w1.heap.size + 4; have := HW1.out; omega) _
            exact HS.out.oi
          · rw [HEN.out]
            refine Ow.mono (B := w1.heap.size + 4) ?_ (by have := HW1.out; omega)
            iterate 8 refine Ow.setBelow ?_ (by show w.heap.size + 1 < w1.heap.size + 4; have := HW1.out; omega) _
            exact HS.out.oo
          · iterate 8 refine Below.setCell ?_ (by show w.heap.size ≤ w.heap.size + 1; omega) _
            exact HB1.out.trans (HS.out.be.mono HB1.out.size)
end Go.Proofs.YtboldkahppdmbaaGreatDoor

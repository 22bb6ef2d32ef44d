/- The walk of FnTraces, written by program (gen32Z.py). -/
import Derived.Test.YtgcoohlakcncbaaGreat32W
import Derived.Test.YtgcoohlakcncbaaGreatLK
import Derived.Test.YtgcoohlakcncbaaGreatDk
namespace Go.Proofs.YtgcoohlakcncbaaGreat
open Go.RowKit
set_option linter.unusedVariables false
set_option linter.unusedSimpArgs false
set_option maxHeartbeats 4000000 in
set_option maxRecDepth 100000 in
theorem final_Traces (v : Value) (xs : List (Fin 256)) (w : World) (h : Sl cY w v xs) :
    Calls Tryz.prog 6 #[v] w fun e w' => e = .returned (.bool true) ∧ Below w.heap.size w w' := by
  have A : Hid (Below w.heap.size w w) := Lib.hid (Below.refl _ _)
  go_enter Tryz.func6, Tryz.ntmps6
  replace h := Lib.hid h
  by_cases hbig : 4096 < xs.length
  · have HC := Lib.hid (decide_eq_true hbig ▸ laws_big v xs w h.out)
    clear hbig
    go_wp2_with fail
    refine HC.out.mono ?_
    rintro e w1 ⟨rfl, rfl⟩
    go_wp2
    go_ret
    exact ⟨rfl, A.out⟩
  · have HC := Lib.hid (decide_eq_false hbig ▸ laws_big v xs w h.out)
    have HD := Lib.hid (fun W hW => spec_DrawTraceOf v xs W hW (by omega))
    clear hbig
    go_wp2_with fail
    refine HC.out.mono ?_
    rintro e w1 ⟨rfl, rfl⟩
    clear HC
    go_wp2_with fail
    refine (HD.out _ h.out).mono ?_
    rintro e w1 ⟨u1, L, rfl, hL, s1, hb⟩
    replace h := Lib.hid (h.out.below hb)
    replace A := Lib.hid (bthen A.out hb)
    clear hb
    obtain ⟨A1, c1, rfl⟩ := s1.opn
    have S1 := Lib.hid s1
    clear s1 HD h
    obtain ⟨b, T, k, hTL, hI, hS, hK⟩ := tq_both L (by omega)
    have HI := Lib.hid hI
    have HS := Lib.hid hS
    have HK := Lib.hid hK
    clear hI hS hK
    have HLT := Lib.hid (fun v u W a c => laws_likeTrace5 b v u T W a c (by omega))
    go_wp2_with fail
    refine (HI.out _ _ S1.out).mono ?_
    rintro e w2 ⟨A2, c2, rfl, s2, hb⟩
    replace S1 := Lib.hid (S1.out.below hb)
    replace A := Lib.hid (bthen A.out hb)
    clear hb
    have S2 := Lib.hid s2
    clear s2
    go_upto_region 5 with fail
    have hb := below_alloc' w2 (.cells #[.bool b, .slice A2 T.length c2] 55)
    have T2 := Lib.hid (Bk.new w2 #[.bool b, .slice A2 T.length c2] 55)
    replace S1 := Lib.hid (S1.out.below hb)
    replace S2 := Lib.hid (S2.out.below hb)
    replace A := Lib.hid (bthen A.out hb)
    clear hb
    generalize World.alloc w2 _ = w3 at *
    have T2s := T2.out.1
    have T2c := T2.out.2
    go_wp2_with fail
    clear T2s T2c
    refine (HS.out _ _ S1.out).mono ?_
    rintro e w4 ⟨A3, c3, rfl, s3, hb⟩
    replace S1 := Lib.hid (S1.out.below hb)
    replace S2 := Lib.hid (S2.out.below hb)
    replace T2 := Lib.hid (T2.out.below hb)
    replace A := Lib.hid (bthen A.out hb)
    clear hb
    have S3 := Lib.hid s3
    clear s3
    have T2s := T2.out.1
    have T2c := T2.out.2
    go_upto_region 6 with fail
    clear T2s T2c
    have hb := below_alloc' w4 (.cells #[.bool b, .slice A3 T.length c3] 55)
    have T3 := Lib.hid (Bk.new w4 #[.bool b, .slice A3 T.length c3] 55)
    replace S1 := Lib.hid (S1.out.below hb)
    replace S2 := Lib.hid (S2.out.below hb)
    replace T2 := Lib.hid (T2.out.below hb)
    replace S3 := Lib.hid (S3.out.below hb)
    replace A := Lib.hid (bthen A.out hb)
    clear hb
    generalize World.alloc w4 _ = w5 at *
    have T2s := T2.out.1
    have T2c := T2.out.2
    have T3s := T3.out.1
    have T3c := T3.out.2
    go_wp2_with fail
    clear T2s T2c T3s T3c
    refine (HLT.out _ _ _ S2.out S3.out).mono ?_
    rintro e w6 ⟨rfl, hb⟩
    replace S1 := Lib.hid (S1.out.below hb)
    replace S2 := Lib.hid (S2.out.below hb)
    replace T2 := Lib.hid (T2.out.below hb)
    replace S3 := Lib.hid (S3.out.below hb)
    replace T3 := Lib.hid (T3.out.below hb)
    replace A := Lib.hid (bthen A.out hb)
    clear hb
    clear HI HS HLT S2 T2
    cases hk : (k == 0)
    · clear HK
      go_wp2
      go_ret
      exact ⟨rfl, A.out⟩
    · obtain rfl : k = 0 := by simpa using hk
      clear hk
      obtain ⟨f, hv, rfl, hl, hb, hT⟩ := HK.out rfl
      have HBb := Lib.hid hb
      have HTT := Lib.hid hT
      clear hb hT
      have hlc := lcode_novar f hv hl
      clear HK hL
      have HM2 : Hid (∀ w : World, (Instr.makeSlice 50 (.int .i64 6) (.int .i64 6)).run Tryz.prog w = .ok (.slice (some ⟨w.heap.size, 0, none⟩) 6 6) (w.alloc (.cells (mkzT 6) 2))) := Lib.hid (fun w => run_mkzT 6 (by omega) w)
      have HTS := Lib.hid (fun A0 A1 c0 c1 v W a c d => chain_T hv hl A0 A1 c0 c1 v W a c d)
      go_wp2_with fail
      refine (chain_I _).mono ?_
      rintro e w7 ⟨A4, c4, rfl, s4, hb⟩
      replace S1 := Lib.hid (S1.out.below hb)
      replace S3 := Lib.hid (S3.out.below hb)
      replace T3 := Lib.hid (T3.out.below hb)
      replace A := Lib.hid (bthen A.out hb)
      clear hb
      have S4 := Lib.hid s4
      clear s4
      go_upto_region 11 with fail
      have hb := below_alloc' w7 (.cells #[.int .i64 8, .slice A4 8 c4] 63)
      have T4 := Lib.hid (Bk.new w7 #[.int .i64 8, .slice A4 8 c4] 63)
      replace S1 := Lib.hid (S1.out.below hb)
      replace S3 := Lib.hid (S3.out.below hb)
      replace T3 := Lib.hid (T3.out.below hb)
      replace S4 := Lib.hid (S4.out.below hb)
      replace A := Lib.hid (bthen A.out hb)
      clear hb
      generalize World.alloc w7 _ = w8 at *
      have T4s := T4.out.1
      have T4c := T4.out.2
      go_wp2_with fail
      clear T4s T4c
      refine (chain_S _).mono ?_
      rintro e w9 ⟨A5, c5, rfl, s5, hb⟩
      replace S1 := Lib.hid (S1.out.below hb)
      replace S3 := Lib.hid (S3.out.below hb)
      replace T3 := Lib.hid (T3.out.below hb)
      replace S4 := Lib.hid (S4.out.below hb)
      replace T4 := Lib.hid (T4.out.below hb)
      replace A := Lib.hid (bthen A.out hb)
      clear hb
      have S5 := Lib.hid s5
      clear s5
      have T4s := T4.out.1
      have T4c := T4.out.2
      go_upto_region 12 with fail
      clear T4s T4c
      have hb := below_alloc' w9 (.cells #[.int .i64 8, .slice A5 8 c5] 63)
      have T5 := Lib.hid (Bk.new w9 #[.int .i64 8, .slice A5 8 c5] 63)
      replace S1 := Lib.hid (S1.out.below hb)
      replace S3 := Lib.hid (S3.out.below hb)
      replace T3 := Lib.hid (T3.out.below hb)
      replace S4 := Lib.hid (S4.out.below hb)
      replace T4 := Lib.hid (T4.out.below hb)
      replace S5 := Lib.hid (S5.out.below hb)
      replace A := Lib.hid (bthen A.out hb)
      clear hb
      generalize World.alloc w9 _ = w10 at *
      have hI : Below w10.heap.size w10 (World.drew w10) := (Below.refl _ _).drew
      have t0 := T5.out.2 0
      have t1 := T5.out.2 1
      have tl := T5.out.1
      refine wp_region_sched (Below w10.heap.size w10) 9 [0, 2, 3, 5, 6, 7, 8] [0, 3, 1, 2, 4, 5, 6, 7, 8] (by kernel_rfl) (by kernel_rfl) hI ?_
      repeat
        apply wpSched_q rfl rfl
        case h =>
          intro w' hI K hK
          have t0' := (hI.cell (p := ⟨w9.heap.size, 0, none⟩) tl).trans t0
          have t1' := (hI.cell (p := ⟨w9.heap.size, 1, none⟩) tl).trans t1
          simp only [quietV, stillV]
          go_simp
          exact hK
        go_simp
      refine wpSched_r rfl rfl ?_ hI
      intro K hK _
      have hm2 := HM2.out
      go_simp
      have hI2 : Below w10.heap.size w10 (World.drew (World.alloc w10 (.cells (mkzT 6) 2))) := (below_alloc' _ _).drew
      refine hK _ _ hI2 ?_
      clear hK K hm2 t0 t1 tl
      have OZ := Lib.hid (((Ow.mkzT (B := w10.heap.size) w10 6 w10.heap.size rfl (Nat.le_refl _) (by omega)).sl.below (Below.refl _ _).drew))
      replace S1 := Lib.hid (S1.out.below hI2)
      replace S3 := Lib.hid (S3.out.below hI2)
      replace T3 := Lib.hid (T3.out.below hI2)
      replace S4 := Lib.hid (S4.out.below hI2)
      replace T4 := Lib.hid (T4.out.below hI2)
      replace S5 := Lib.hid (S5.out.below hI2)
      replace T5 := Lib.hid (T5.out.below hI2)
      replace A := Lib.hid (bthen A.out hI2)
      clear hI
      generalize (World.drew (World.alloc w10 (.cells (mkzT 6) 2))) = w11 at *
      have HI2 := Lib.hid hI2
      repeat
        apply wpSched_q rfl rfl
        case h =>
          intro w' hI K hK
          simp only [quietV, stillV]
          go_simp
          exact hK
        go_simp
      refine wpSched_r rfl rfl ?_ hI2
      intro K hK _
      go_simp
      have OZ2 : Hid (Sl cI w11 (.slice (some ⟨w10.heap.size, 0, none⟩) 6 6) (li usZ)) := Lib.hid OZ.out
      refine (HTS.out _ _ _ _ _ _ S5.out OZ2.out S1.out).mono ?_
      rintro e w12 ⟨rfl, hb⟩
      have hI : Below w10.heap.size w10 w12 := bthen hI2 hb
      refine hK _ _ hI ?_
      clear hK K hI2
      replace S1 := Lib.hid (S1.out.below hb)
      replace S3 := Lib.hid (S3.out.below hb)
      replace T3 := Lib.hid (T3.out.below hb)
      replace S4 := Lib.hid (S4.out.below hb)
      replace T4 := Lib.hid (T4.out.below hb)
      replace S5 := Lib.hid (S5.out.below hb)
      replace T5 := Lib.hid (T5.out.below hb)
      replace OZ := Lib.hid (OZ.out.below hb)
      replace A := Lib.hid (bthen A.out hb)
      clear hb
      repeat
        apply wpSched_q rfl rfl
        case h =>
          intro w' hI K hK
          simp only [quietV, stillV]
          go_simp
          exact hK
        go_simp
      refine wpSched_nil ?_
      try simp only [List.drop_succ_cons, List.drop_zero]
      clear hI HI2
      clear HTS HM2 OZ OZ2
      have T4s := T4.out.1
      have T4c := T4.out.2
      have T5s := T5.out.1
      have T5c := T5.out.2
      go_wp2_with fail
      clear T4s T4c T5s T5c
      refine (laws_likeFrame5 (8 : Int) _ _ (li chN) _ S4.out S5.out (by decide)).mono ?_
      rintro e w13 ⟨rfl, hb⟩
      replace S1 := Lib.hid (S1.out.below hb)
      replace S3 := Lib.hid (S3.out.below hb)
      replace T3 := Lib.hid (T3.out.below hb)
      replace S4 := Lib.hid (S4.out.below hb)
      replace T4 := Lib.hid (T4.out.below hb)
      replace S5 := Lib.hid (S5.out.below hb)
      replace T5 := Lib.hid (T5.out.below hb)
      replace A := Lib.hid (bthen A.out hb)
      clear hb
      clear S4 S5 T4 T5
      have HTV := Lib.hid (fun j hj => tv_chain f hv j hj)
      have HT64 : Hid (tv chN usZ f < 9223372036854775808) := Lib.hid (by have := tv_lt chN usZ (by decide) f; have e : 2 ^ chN.length = 256 := rfl; omega)
      generalize tv chN usZ f = tm at *
      go_wp2
      go_loopw [14] (fun i wr => ∃ j : Nat, j ≤ 8 ∧ i = .int .i64 j ∧ Below w13.heap.size w13 wr) (fun i _ => 8 - (intOf i).toNat)
      case atStart => exact ⟨0, Nat.zero_le _, rfl, Below.refl _ _⟩
      case round =>
        obtain ⟨j, hj, rfl, hbl⟩ := hrel
        obtain ⟨w30, hw30⟩ : ∃ W, W = wr := ⟨_, rfl⟩
        subst hw30
        replace S1 := Lib.hid (S1.out.below hbl)
        replace S3 := Lib.hid (S3.out.below hbl)
        replace T3 := Lib.hid (T3.out.below hbl)
        replace A := Lib.hid (bthen A.out hbl)
        have HBL := Lib.hid hbl
        clear hbl
        by_cases hlt : j < 8
        · have HRk := Lib.hid (impl_IsTrueAtRank_ok (.slice A1 (enc f).length c1) f j w30 S1.out hl hlc (by omega))
          have HX := tr_in (rk f 0) (n := j) (by omega)
          rw [← HTT.out, ← HBb.out] at HX
          have HBt := Lib.hid (fun W => laws_bit5 tm j W HT64.out (by omega))
          rw [HTV.out j hlt] at HBt
          have hzr : ∃ z, decide ((j : Int) ∈ T) = z := ⟨_, rfl⟩
          obtain ⟨z, hz⟩ := hzr
          rw [hz] at HX
          have Q3 := Lib.hid (fun W (hW : Sl cI W (.slice A3 T.length c3) T) => q_hasInt hz W hW (by omega))
          clear hz
          rw [← HX] at HRk HBt
          clear HX
          have j8 : (j : Int) < 8 := by omega
          go_wp2_with fail
          refine HRk.out.mono ?_
          rintro e w31 ⟨rfl, hb⟩
          have HB31 := Lib.hid hb
          replace S1 := Lib.hid (S1.out.below hb)
          replace S3 := Lib.hid (S3.out.below hb)
          replace T3 := Lib.hid (T3.out.below hb)
          replace A := Lib.hid (bthen A.out hb)
          clear hb
          have Q4 := Lib.hid (Q3.out _ S3.out)
          clear Q3
          have T3s := T3.out.1
          have T3c := T3.out.2
          go_wp2
          go_quiet ((go_at_call 31; exact Q4.out _))
          go_wp2_with fail
          refine (HBt.out _).mono ?_
          rintro e w40 ⟨rfl, rfl⟩
          go_wp2
          go_roundw
          case rel => exact ⟨j + 1, by omega, by go_num, below_drewN (bthen HBL.out HB31.out) _⟩
          case measure => simp [intOf]; omega
        · obtain rfl : j = 8 := by omega
          have H1 := Lib.hid (fun v W a => impl_IsLetterlessTheorem_ok v f W a hl hlc)
          have H2 := Lib.hid (fun v W a => impl_IsTrueSentence_ok v f W a hl hlc)
          have H3 := Lib.hid (fun v W a => impl_FirstFalseRank_ok v f W a hl hlc)
          have hok := novar_ok f hv
          have HSy := Lib.hid (fun v W a => laws_say5 f v W a hl hok)
          obtain ⟨y, cd, eim, hcs⟩ := imt_all hv hl
          have HMT := Lib.hid (fun lv rv W a c => eim ▸ impl_IsModalTheorem1 [] [f] (by simp) (by simp) (fun g hg => by rw [List.mem_singleton.1 hg]; exact ⟨hok, hl⟩) lv rv W a c)
          obtain ⟨R, kn, hR, hNI, hNS, hN⟩ := ln_both hv hl
          have HNI := Lib.hid hNI
          have HNS := Lib.hid hNS
          have HLF := Lib.hid (fun v u W a c => laws_likeFormula5 v u R W a c (by omega))
          have HN : Hid ((kn = 3 ∧ R = []) ∨ (kn = 0 ∧ ∃ (y : Bool) (cd : Int), ((cd = 0 ∧ y = true) ∨ cd = 3) ∧ (∀ v u W, Sl cN W v (enc f) → Sl cN W u R → Calls Tryz.prog 39 #[v, u] W fun e w' => e = .returned (.tuple #[.bool true, .int .i64 0]) ∧ Below W.heap.size W w') ∧ (∀ v u W, Sl cN W v (enc f) → Sl cN W u R → Calls Tryz.prog 53 #[.string ⟨#[71, 76]⟩, v, u] W fun e w' => e = .returned (.tuple #[.bool y, .int .i64 cd]) ∧ Below W.heap.size W w'))) := Lib.hid (by
            rcases hN with hN | ⟨h0, l, hlv, rfl, hal⟩
            · exact .inl hN
            · obtain ⟨y, cd, ea, ha⟩ := ame_pack hv hlv hl hR hal
              exact .inr ⟨h0, y, cd, ha, fun v u W a c => hal ▸ impl_AreLetterlessEqual_ok v u f l W a c hl hR (lcode_2 hlc (lcode_novar l hlv hR)), fun v u W a c => ea ▸ impl_AreModallyEquivalent_GL f l v u W a c hl hR hok (novar_ok l hlv)⟩)
          clear hNI hNS hN eim HTV HT64 hj hlt HBL hok
          have HTN := Lib.hid (tr_nil (rk f 0))
          have HTI := Lib.hid (fun j hj => tr_in (rk f 0) (n := j) hj)
          rw [← HTT.out, ← HBb.out] at HTI
          rw [← HTT.out] at HTN
          have HCF := Lib.hid (ff_pack (rk f 0))
          have hrb : rk f 0 60 = !b := by rw [HBb.out, Bool.not_not]
          rw [hrb] at H2 HTN
          have HQ := Lib.hid hrb
          clear hrb HTT HBb hl hlc hv
          generalize rk f 0 = q at *
          rcases HCF.out with ⟨ha, hf⟩ | ⟨ha, j, hj, hpj, hf⟩
          · skip
            have h60 : q 60 = true := by unfold allR at ha; exact List.all_eq_true.1 ha 60 (by simp)
            obtain rfl : b = false := by rw [HQ.out] at h60; simpa using h60
            obtain rfl : T = [] := List.eq_nil_of_length_eq_zero (HTN.out.2 fun n hn => by unfold allR at ha; exact List.all_eq_true.1 ha n (List.mem_range.2 hn))
            rw [hf] at H3
            rw [ha] at H1
            clear hf h60 HTN HTI HQ HCF
            go_wp2_with fail
            refine (H1.out _ _ S1.out).mono ?_
            rintro e w31 ⟨rfl, hb⟩
            replace S1 := Lib.hid (S1.out.below hb)
            replace S3 := Lib.hid (S3.out.below hb)
            replace T3 := Lib.hid (T3.out.below hb)
            replace A := Lib.hid (bthen A.out hb)
            clear hb
            go_wp2_with fail
            refine (H2.out _ _ S1.out).mono ?_
            rintro e w32 ⟨rfl, hb⟩
            replace S1 := Lib.hid (S1.out.below hb)
            replace S3 := Lib.hid (S3.out.below hb)
            replace T3 := Lib.hid (T3.out.below hb)
            replace A := Lib.hid (bthen A.out hb)
            clear hb
            go_wp2_with fail
            refine (H3.out _ _ S1.out).mono ?_
            rintro e w33 ⟨rfl, hb⟩
            replace S1 := Lib.hid (S1.out.below hb)
            replace S3 := Lib.hid (S3.out.below hb)
            replace T3 := Lib.hid (T3.out.below hb)
            replace A := Lib.hid (bthen A.out hb)
            clear hb
            clear H1 H2 H3
            have T3s := T3.out.1
            have T3c := T3.out.2
            go_wp2
            go_quiet (fail)
            clear T3s T3c
            have hb := below_drewN (Below.refl w33.heap.size w33) nq
            replace S1 := Lib.hid (S1.out.below hb)
            replace S3 := Lib.hid (S3.out.below hb)
            replace T3 := Lib.hid (T3.out.below hb)
            replace A := Lib.hid (bthen A.out hb)
            clear hb
            generalize World.drewN w33 nq = w34 at *
            have hb := below_alloc' w34 (.cells #[] 9)
            have E0 := Lib.hid (lit_str0 w34)
            replace S1 := Lib.hid (S1.out.below hb)
            replace S3 := Lib.hid (S3.out.below hb)
            replace T3 := Lib.hid (T3.out.below hb)
            replace A := Lib.hid (bthen A.out hb)
            clear hb
            go_wp2_with fail
            refine (HSy.out _ _ S1.out).mono ?_
            rintro e w35 ⟨rfl, hb⟩
            replace S1 := Lib.hid (S1.out.below hb)
            replace S3 := Lib.hid (S3.out.below hb)
            replace T3 := Lib.hid (T3.out.below hb)
            replace E0 := Lib.hid (E0.out.below hb)
            replace A := Lib.hid (bthen A.out hb)
            clear hb
            clear HSy
            have hb := below_alloc' w35 (.cells #[.string (txt f)] 9)
            have E1 := Lib.hid (lit_strO w35 (txt f))
            replace S1 := Lib.hid (S1.out.below hb)
            replace S3 := Lib.hid (S3.out.below hb)
            replace T3 := Lib.hid (T3.out.below hb)
            replace E0 := Lib.hid (E0.out.below hb)
            replace A := Lib.hid (bthen A.out hb)
            clear hb
            go_wp2_with fail
            refine (HMT.out _ _ _ E0.out E1.out).mono ?_
            rintro e w36 ⟨rfl, hb⟩
            replace S1 := Lib.hid (S1.out.below hb)
            replace S3 := Lib.hid (S3.out.below hb)
            replace T3 := Lib.hid (T3.out.below hb)
            replace E0 := Lib.hid (E0.out.below hb)
            replace E1 := Lib.hid (E1.out.below hb)
            replace A := Lib.hid (bthen A.out hb)
            clear hb
            clear HMT E0 E1
            rcases hcs with ⟨rfl, rfl⟩ | rfl
            · skip
              rw [ha] at *
              go_wp2_with fail
              refine (HNI.out _ _ S1.out).mono ?_
              rintro e w37 ⟨A7, c7, rfl, s7, hb⟩
              replace S1 := Lib.hid (S1.out.below hb)
              replace S3 := Lib.hid (S3.out.below hb)
              replace T3 := Lib.hid (T3.out.below hb)
              replace A := Lib.hid (bthen A.out hb)
              clear hb
              have S7 := Lib.hid s7
              clear s7
              go_wp2_with fail
              refine (HNS.out _ _ S1.out).mono ?_
              rintro e w38 ⟨A8, c8, rfl, s8, hb⟩
              replace S1 := Lib.hid (S1.out.below hb)
              replace S3 := Lib.hid (S3.out.below hb)
              replace T3 := Lib.hid (T3.out.below hb)
              replace S7 := Lib.hid (S7.out.below hb)
              replace A := Lib.hid (bthen A.out hb)
              clear hb
              have S8 := Lib.hid s8
              clear s8
              go_wp2_with fail
              refine (HLF.out _ _ _ S7.out S8.out).mono ?_
              rintro e w39 ⟨rfl, hb⟩
              replace S1 := Lib.hid (S1.out.below hb)
              replace S3 := Lib.hid (S3.out.below hb)
              replace T3 := Lib.hid (T3.out.below hb)
              replace S7 := Lib.hid (S7.out.below hb)
              replace S8 := Lib.hid (S8.out.below hb)
              replace A := Lib.hid (bthen A.out hb)
              clear hb
              clear HNI HNS HLF S7
              rcases HN.out with ⟨rfl, rfl⟩ | ⟨rfl, y2, cd2, hc2, hae, ham⟩
              · clear HN
                go_wp2
                go_ret
                exact ⟨rfl, A.out⟩
              · have HAE := Lib.hid hae
                have HAM := Lib.hid ham
                clear HN hae ham
                go_wp2_with fail
                refine (HAE.out _ _ _ S1.out S8.out).mono ?_
                rintro e w40 ⟨rfl, hb⟩
                replace S1 := Lib.hid (S1.out.below hb)
                replace S3 := Lib.hid (S3.out.below hb)
                replace T3 := Lib.hid (T3.out.below hb)
                replace S8 := Lib.hid (S8.out.below hb)
                replace A := Lib.hid (bthen A.out hb)
                clear hb
                go_wp2_with fail
                refine (HAM.out _ _ _ S1.out S8.out).mono ?_
                rintro e w41 ⟨rfl, hb⟩
                replace S1 := Lib.hid (S1.out.below hb)
                replace S3 := Lib.hid (S3.out.below hb)
                replace T3 := Lib.hid (T3.out.below hb)
                replace S8 := Lib.hid (S8.out.below hb)
                replace A := Lib.hid (bthen A.out hb)
                clear hb
                rcases hc2 with ⟨rfl, rfl⟩ | rfl
                all_goals
                  go_wp2
                  go_ret
                  exact ⟨rfl, A.out⟩
            · skip
              go_wp2_with fail
              refine (HNI.out _ _ S1.out).mono ?_
              rintro e w37 ⟨A7, c7, rfl, s7, hb⟩
              replace S1 := Lib.hid (S1.out.below hb)
              replace S3 := Lib.hid (S3.out.below hb)
              replace T3 := Lib.hid (T3.out.below hb)
              replace A := Lib.hid (bthen A.out hb)
              clear hb
              have S7 := Lib.hid s7
              clear s7
              go_wp2_with fail
              refine (HNS.out _ _ S1.out).mono ?_
              rintro e w38 ⟨A8, c8, rfl, s8, hb⟩
              replace S1 := Lib.hid (S1.out.below hb)
              replace S3 := Lib.hid (S3.out.below hb)
              replace T3 := Lib.hid (T3.out.below hb)
              replace S7 := Lib.hid (S7.out.below hb)
              replace A := Lib.hid (bthen A.out hb)
              clear hb
              have S8 := Lib.hid s8
              clear s8
              go_wp2_with fail
              refine (HLF.out _ _ _ S7.out S8.out).mono ?_
              rintro e w39 ⟨rfl, hb⟩
              replace S1 := Lib.hid (S1.out.below hb)
              replace S3 := Lib.hid (S3.out.below hb)
              replace T3 := Lib.hid (T3.out.below hb)
              replace S7 := Lib.hid (S7.out.below hb)
              replace S8 := Lib.hid (S8.out.below hb)
              replace A := Lib.hid (bthen A.out hb)
              clear hb
              clear HNI HNS HLF S7
              rcases HN.out with ⟨rfl, rfl⟩ | ⟨rfl, y2, cd2, hc2, hae, ham⟩
              · clear HN
                go_wp2
                go_ret
                exact ⟨rfl, A.out⟩
              · have HAE := Lib.hid hae
                have HAM := Lib.hid ham
                clear HN hae ham
                go_wp2_with fail
                refine (HAE.out _ _ _ S1.out S8.out).mono ?_
                rintro e w40 ⟨rfl, hb⟩
                replace S1 := Lib.hid (S1.out.below hb)
                replace S3 := Lib.hid (S3.out.below hb)
                replace T3 := Lib.hid (T3.out.below hb)
                replace S8 := Lib.hid (S8.out.below hb)
                replace A := Lib.hid (bthen A.out hb)
                clear hb
                go_wp2_with fail
                refine (HAM.out _ _ _ S1.out S8.out).mono ?_
                rintro e w41 ⟨rfl, hb⟩
                replace S1 := Lib.hid (S1.out.below hb)
                replace S3 := Lib.hid (S3.out.below hb)
                replace T3 := Lib.hid (T3.out.below hb)
                replace S8 := Lib.hid (S8.out.below hb)
                replace A := Lib.hid (bthen A.out hb)
                clear hb
                rcases hc2 with ⟨rfl, rfl⟩ | rfl
                all_goals
                  go_wp2
                  go_ret
                  exact ⟨rfl, A.out⟩
          · skip
            rw [hf] at H3
            rw [ha] at H1
            have hz : decide ((j : Int) ∈ T) = !b := by have := HTI.out j hj; rw [hpj] at this; cases b <;> simpa using this
            have Q3 := Lib.hid (fun W (hW : Sl cI W (.slice A3 T.length c3) T) => q_hasInt hz W hW (by omega))
            have hTl : b = false → ((T.length : Int) == 0) = false := fun hb => by
              have h0 : T.length ≠ 0 := fun e => by have := HTN.out.1 e j hj; rw [hpj, hb] at this; cases this
              simp only [beq_eq_false_iff_ne, ne_eq]; omega
            clear hf HTN HTI HQ HCF hz hpj hj
            go_wp2_with fail
            refine (H1.out _ _ S1.out).mono ?_
            rintro e w31 ⟨rfl, hb⟩
            replace S1 := Lib.hid (S1.out.below hb)
            replace S3 := Lib.hid (S3.out.below hb)
            replace T3 := Lib.hid (T3.out.below hb)
            replace A := Lib.hid (bthen A.out hb)
            clear hb
            go_wp2_with fail
            refine (H2.out _ _ S1.out).mono ?_
            rintro e w32 ⟨rfl, hb⟩
            replace S1 := Lib.hid (S1.out.below hb)
            replace S3 := Lib.hid (S3.out.below hb)
            replace T3 := Lib.hid (T3.out.below hb)
            replace A := Lib.hid (bthen A.out hb)
            clear hb
            go_wp2_with fail
            refine (H3.out _ _ S1.out).mono ?_
            rintro e w33 ⟨rfl, hb⟩
            replace S1 := Lib.hid (S1.out.below hb)
            replace S3 := Lib.hid (S3.out.below hb)
            replace T3 := Lib.hid (T3.out.below hb)
            replace A := Lib.hid (bthen A.out hb)
            clear hb
            clear H1 H2 H3
            have Q4 := Lib.hid (Q3.out _ S3.out)
            clear Q3
            cases b
            · replace hTl := hTl rfl
              have T3s := T3.out.1
              have T3c := T3.out.2
              go_wp2
              go_quiet ((go_at_call 31; exact Q4.out _))
              clear T3s T3c
              clear hTl
              clear Q4
              have hb := below_drewN (Below.refl w33.heap.size w33) nq
              replace S1 := Lib.hid (S1.out.below hb)
              replace S3 := Lib.hid (S3.out.below hb)
              replace T3 := Lib.hid (T3.out.below hb)
              replace A := Lib.hid (bthen A.out hb)
              clear hb
              generalize World.drewN w33 nq = w34 at *
              have hb := below_alloc' w34 (.cells #[] 9)
              have E0 := Lib.hid (lit_str0 w34)
              replace S1 := Lib.hid (S1.out.below hb)
              replace S3 := Lib.hid (S3.out.below hb)
              replace T3 := Lib.hid (T3.out.below hb)
              replace A := Lib.hid (bthen A.out hb)
              clear hb
              go_wp2_with fail
              refine (HSy.out _ _ S1.out).mono ?_
              rintro e w35 ⟨rfl, hb⟩
              replace S1 := Lib.hid (S1.out.below hb)
              replace S3 := Lib.hid (S3.out.below hb)
              replace T3 := Lib.hid (T3.out.below hb)
              replace E0 := Lib.hid (E0.out.below hb)
              replace A := Lib.hid (bthen A.out hb)
              clear hb
              clear HSy
              have hb := below_alloc' w35 (.cells #[.string (txt f)] 9)
              have E1 := Lib.hid (lit_strO w35 (txt f))
              replace S1 := Lib.hid (S1.out.below hb)
              replace S3 := Lib.hid (S3.out.below hb)
              replace T3 := Lib.hid (T3.out.below hb)
              replace E0 := Lib.hid (E0.out.below hb)
              replace A := Lib.hid (bthen A.out hb)
              clear hb
              go_wp2_with fail
              refine (HMT.out _ _ _ E0.out E1.out).mono ?_
              rintro e w36 ⟨rfl, hb⟩
              replace S1 := Lib.hid (S1.out.below hb)
              replace S3 := Lib.hid (S3.out.below hb)
              replace T3 := Lib.hid (T3.out.below hb)
              replace E0 := Lib.hid (E0.out.below hb)
              replace E1 := Lib.hid (E1.out.below hb)
              replace A := Lib.hid (bthen A.out hb)
              clear hb
              clear HMT E0 E1
              rcases hcs with ⟨rfl, rfl⟩ | rfl
              · skip
                rw [ha] at *
                go_wp2_with fail
                refine (HNI.out _ _ S1.out).mono ?_
                rintro e w37 ⟨A7, c7, rfl, s7, hb⟩
                replace S1 := Lib.hid (S1.out.below hb)
                replace S3 := Lib.hid (S3.out.below hb)
                replace T3 := Lib.hid (T3.out.below hb)
                replace A := Lib.hid (bthen A.out hb)
                clear hb
                have S7 := Lib.hid s7
                clear s7
                go_wp2_with fail
                refine (HNS.out _ _ S1.out).mono ?_
                rintro e w38 ⟨A8, c8, rfl, s8, hb⟩
                replace S1 := Lib.hid (S1.out.below hb)
                replace S3 := Lib.hid (S3.out.below hb)
                replace T3 := Lib.hid (T3.out.below hb)
                replace S7 := Lib.hid (S7.out.below hb)
                replace A := Lib.hid (bthen A.out hb)
                clear hb
                have S8 := Lib.hid s8
                clear s8
                go_wp2_with fail
                refine (HLF.out _ _ _ S7.out S8.out).mono ?_
                rintro e w39 ⟨rfl, hb⟩
                replace S1 := Lib.hid (S1.out.below hb)
                replace S3 := Lib.hid (S3.out.below hb)
                replace T3 := Lib.hid (T3.out.below hb)
                replace S7 := Lib.hid (S7.out.below hb)
                replace S8 := Lib.hid (S8.out.below hb)
                replace A := Lib.hid (bthen A.out hb)
                clear hb
                clear HNI HNS HLF S7
                rcases HN.out with ⟨rfl, rfl⟩ | ⟨rfl, y2, cd2, hc2, hae, ham⟩
                · clear HN
                  go_wp2
                  go_ret
                  exact ⟨rfl, A.out⟩
                · have HAE := Lib.hid hae
                  have HAM := Lib.hid ham
                  clear HN hae ham
                  go_wp2_with fail
                  refine (HAE.out _ _ _ S1.out S8.out).mono ?_
                  rintro e w40 ⟨rfl, hb⟩
                  replace S1 := Lib.hid (S1.out.below hb)
                  replace S3 := Lib.hid (S3.out.below hb)
                  replace T3 := Lib.hid (T3.out.below hb)
                  replace S8 := Lib.hid (S8.out.below hb)
                  replace A := Lib.hid (bthen A.out hb)
                  clear hb
                  go_wp2_with fail
                  refine (HAM.out _ _ _ S1.out S8.out).mono ?_
                  rintro e w41 ⟨rfl, hb⟩
                  replace S1 := Lib.hid (S1.out.below hb)
                  replace S3 := Lib.hid (S3.out.below hb)
                  replace T3 := Lib.hid (T3.out.below hb)
                  replace S8 := Lib.hid (S8.out.below hb)
                  replace A := Lib.hid (bthen A.out hb)
                  clear hb
                  rcases hc2 with ⟨rfl, rfl⟩ | rfl
                  all_goals
                    go_wp2
                    go_ret
                    exact ⟨rfl, A.out⟩
              · skip
                go_wp2_with fail
                refine (HNI.out _ _ S1.out).mono ?_
                rintro e w37 ⟨A7, c7, rfl, s7, hb⟩
                replace S1 := Lib.hid (S1.out.below hb)
                replace S3 := Lib.hid (S3.out.below hb)
                replace T3 := Lib.hid (T3.out.below hb)
                replace A := Lib.hid (bthen A.out hb)
                clear hb
                have S7 := Lib.hid s7
                clear s7
                go_wp2_with fail
                refine (HNS.out _ _ S1.out).mono ?_
                rintro e w38 ⟨A8, c8, rfl, s8, hb⟩
                replace S1 := Lib.hid (S1.out.below hb)
                replace S3 := Lib.hid (S3.out.below hb)
                replace T3 := Lib.hid (T3.out.below hb)
                replace S7 := Lib.hid (S7.out.below hb)
                replace A := Lib.hid (bthen A.out hb)
                clear hb
                have S8 := Lib.hid s8
                clear s8
                go_wp2_with fail
                refine (HLF.out _ _ _ S7.out S8.out).mono ?_
                rintro e w39 ⟨rfl, hb⟩
                replace S1 := Lib.hid (S1.out.below hb)
                replace S3 := Lib.hid (S3.out.below hb)
                replace T3 := Lib.hid (T3.out.below hb)
                replace S7 := Lib.hid (S7.out.below hb)
                replace S8 := Lib.hid (S8.out.below hb)
                replace A := Lib.hid (bthen A.out hb)
                clear hb
                clear HNI HNS HLF S7
                rcases HN.out with ⟨rfl, rfl⟩ | ⟨rfl, y2, cd2, hc2, hae, ham⟩
                · clear HN
                  go_wp2
                  go_ret
                  exact ⟨rfl, A.out⟩
                · have HAE := Lib.hid hae
                  have HAM := Lib.hid ham
                  clear HN hae ham
                  go_wp2_with fail
                  refine (HAE.out _ _ _ S1.out S8.out).mono ?_
                  rintro e w40 ⟨rfl, hb⟩
                  replace S1 := Lib.hid (S1.out.below hb)
                  replace S3 := Lib.hid (S3.out.below hb)
                  replace T3 := Lib.hid (T3.out.below hb)
                  replace S8 := Lib.hid (S8.out.below hb)
                  replace A := Lib.hid (bthen A.out hb)
                  clear hb
                  go_wp2_with fail
                  refine (HAM.out _ _ _ S1.out S8.out).mono ?_
                  rintro e w41 ⟨rfl, hb⟩
                  replace S1 := Lib.hid (S1.out.below hb)
                  replace S3 := Lib.hid (S3.out.below hb)
                  replace T3 := Lib.hid (T3.out.below hb)
                  replace S8 := Lib.hid (S8.out.below hb)
                  replace A := Lib.hid (bthen A.out hb)
                  clear hb
                  rcases hc2 with ⟨rfl, rfl⟩ | rfl
                  all_goals
                    go_wp2
                    go_ret
                    exact ⟨rfl, A.out⟩
            · clear hTl
              have T3s := T3.out.1
              have T3c := T3.out.2
              go_wp2
              go_quiet ((go_at_call 31; exact Q4.out _))
              clear T3s T3c
              clear Q4
              have hb := below_drewN (Below.refl w33.heap.size w33) nq
              replace S1 := Lib.hid (S1.out.below hb)
              replace S3 := Lib.hid (S3.out.below hb)
              replace T3 := Lib.hid (T3.out.below hb)
              replace A := Lib.hid (bthen A.out hb)
              clear hb
              generalize World.drewN w33 nq = w34 at *
              have hb := below_alloc' w34 (.cells #[] 9)
              have E0 := Lib.hid (lit_str0 w34)
              replace S1 := Lib.hid (S1.out.below hb)
              replace S3 := Lib.hid (S3.out.below hb)
              replace T3 := Lib.hid (T3.out.below hb)
              replace A := Lib.hid (bthen A.out hb)
              clear hb
              go_wp2_with fail
              refine (HSy.out _ _ S1.out).mono ?_
              rintro e w35 ⟨rfl, hb⟩
              replace S1 := Lib.hid (S1.out.below hb)
              replace S3 := Lib.hid (S3.out.below hb)
              replace T3 := Lib.hid (T3.out.below hb)
              replace E0 := Lib.hid (E0.out.below hb)
              replace A := Lib.hid (bthen A.out hb)
              clear hb
              clear HSy
              have hb := below_alloc' w35 (.cells #[.string (txt f)] 9)
              have E1 := Lib.hid (lit_strO w35 (txt f))
              replace S1 := Lib.hid (S1.out.below hb)
              replace S3 := Lib.hid (S3.out.below hb)
              replace T3 := Lib.hid (T3.out.below hb)
              replace E0 := Lib.hid (E0.out.below hb)
              replace A := Lib.hid (bthen A.out hb)
              clear hb
              go_wp2_with fail
              refine (HMT.out _ _ _ E0.out E1.out).mono ?_
              rintro e w36 ⟨rfl, hb⟩
              replace S1 := Lib.hid (S1.out.below hb)
              replace S3 := Lib.hid (S3.out.below hb)
              replace T3 := Lib.hid (T3.out.below hb)
              replace E0 := Lib.hid (E0.out.below hb)
              replace E1 := Lib.hid (E1.out.below hb)
              replace A := Lib.hid (bthen A.out hb)
              clear hb
              clear HMT E0 E1
              rcases hcs with ⟨rfl, rfl⟩ | rfl
              · skip
                rw [ha] at *
                go_wp2_with fail
                refine (HNI.out _ _ S1.out).mono ?_
                rintro e w37 ⟨A7, c7, rfl, s7, hb⟩
                replace S1 := Lib.hid (S1.out.below hb)
                replace S3 := Lib.hid (S3.out.below hb)
                replace T3 := Lib.hid (T3.out.below hb)
                replace A := Lib.hid (bthen A.out hb)
                clear hb
                have S7 := Lib.hid s7
                clear s7
                go_wp2_with fail
                refine (HNS.out _ _ S1.out).mono ?_
                rintro e w38 ⟨A8, c8, rfl, s8, hb⟩
                replace S1 := Lib.hid (S1.out.below hb)
                replace S3 := Lib.hid (S3.out.below hb)
                replace T3 := Lib.hid (T3.out.below hb)
                replace S7 := Lib.hid (S7.out.below hb)
                replace A := Lib.hid (bthen A.out hb)
                clear hb
                have S8 := Lib.hid s8
                clear s8
                go_wp2_with fail
                refine (HLF.out _ _ _ S7.out S8.out).mono ?_
                rintro e w39 ⟨rfl, hb⟩
                replace S1 := Lib.hid (S1.out.below hb)
                replace S3 := Lib.hid (S3.out.below hb)
                replace T3 := Lib.hid (T3.out.below hb)
                replace S7 := Lib.hid (S7.out.below hb)
                replace S8 := Lib.hid (S8.out.below hb)
                replace A := Lib.hid (bthen A.out hb)
                clear hb
                clear HNI HNS HLF S7
                rcases HN.out with ⟨rfl, rfl⟩ | ⟨rfl, y2, cd2, hc2, hae, ham⟩
                · clear HN
                  go_wp2
                  go_ret
                  exact ⟨rfl, A.out⟩
                · have HAE := Lib.hid hae
                  have HAM := Lib.hid ham
                  clear HN hae ham
                  go_wp2_with fail
                  refine (HAE.out _ _ _ S1.out S8.out).mono ?_
                  rintro e w40 ⟨rfl, hb⟩
                  replace S1 := Lib.hid (S1.out.below hb)
                  replace S3 := Lib.hid (S3.out.below hb)
                  replace T3 := Lib.hid (T3.out.below hb)
                  replace S8 := Lib.hid (S8.out.below hb)
                  replace A := Lib.hid (bthen A.out hb)
                  clear hb
                  go_wp2_with fail
                  refine (HAM.out _ _ _ S1.out S8.out).mono ?_
                  rintro e w41 ⟨rfl, hb⟩
                  replace S1 := Lib.hid (S1.out.below hb)
                  replace S3 := Lib.hid (S3.out.below hb)
                  replace T3 := Lib.hid (T3.out.below hb)
                  replace S8 := Lib.hid (S8.out.below hb)
                  replace A := Lib.hid (bthen A.out hb)
                  clear hb
                  rcases hc2 with ⟨rfl, rfl⟩ | rfl
                  all_goals
                    go_wp2
                    go_ret
                    exact ⟨rfl, A.out⟩
              · skip
                go_wp2_with fail
                refine (HNI.out _ _ S1.out).mono ?_
                rintro e w37 ⟨A7, c7, rfl, s7, hb⟩
                replace S1 := Lib.hid (S1.out.below hb)
                replace S3 := Lib.hid (S3.out.below hb)
                replace T3 := Lib.hid (T3.out.below hb)
                replace A := Lib.hid (bthen A.out hb)
                clear hb
                have S7 := Lib.hid s7
                clear s7
                go_wp2_with fail
                refine (HNS.out _ _ S1.out).mono ?_
                rintro e w38 ⟨A8, c8, rfl, s8, hb⟩
                replace S1 := Lib.hid (S1.out.below hb)
                replace S3 := Lib.hid (S3.out.below hb)
                replace T3 := Lib.hid (T3.out.below hb)
                replace S7 := Lib.hid (S7.out.below hb)
                replace A := Lib.hid (bthen A.out hb)
                clear hb
                have S8 := Lib.hid s8
                clear s8
                go_wp2_with fail
                refine (HLF.out _ _ _ S7.out S8.out).mono ?_
                rintro e w39 ⟨rfl, hb⟩
                replace S1 := Lib.hid (S1.out.below hb)
                replace S3 := Lib.hid (S3.out.below hb)
                replace T3 := Lib.hid (T3.out.below hb)
                replace S7 := Lib.hid (S7.out.below hb)
                replace S8 := Lib.hid (S8.out.below hb)
                replace A := Lib.hid (bthen A.out hb)
                clear hb
                clear HNI HNS HLF S7
                rcases HN.out with ⟨rfl, rfl⟩ | ⟨rfl, y2, cd2, hc2, hae, ham⟩
                · clear HN
                  go_wp2
                  go_ret
                  exact ⟨rfl, A.out⟩
                · have HAE := Lib.hid hae
                  have HAM := Lib.hid ham
                  clear HN hae ham
                  go_wp2_with fail
                  refine (HAE.out _ _ _ S1.out S8.out).mono ?_
                  rintro e w40 ⟨rfl, hb⟩
                  replace S1 := Lib.hid (S1.out.below hb)
                  replace S3 := Lib.hid (S3.out.below hb)
                  replace T3 := Lib.hid (T3.out.below hb)
                  replace S8 := Lib.hid (S8.out.below hb)
                  replace A := Lib.hid (bthen A.out hb)
                  clear hb
                  go_wp2_with fail
                  refine (HAM.out _ _ _ S1.out S8.out).mono ?_
                  rintro e w41 ⟨rfl, hb⟩
                  replace S1 := Lib.hid (S1.out.below hb)
                  replace S3 := Lib.hid (S3.out.below hb)
                  replace T3 := Lib.hid (T3.out.below hb)
                  replace S8 := Lib.hid (S8.out.below hb)
                  replace A := Lib.hid (bthen A.out hb)
                  clear hb
                  rcases hc2 with ⟨rfl, rfl⟩ | rfl
                  all_goals
                    go_wp2
                    go_ret
                    exact ⟨rfl, A.out⟩
end Go.Proofs.YtgcoohlakcncbaaGreat

/- The walk of FnBisimulationQuotients, written by program (gen07Q.py). -/
import Derived.Test.YtnolbgdbboiehaaGreat07Q
import Derived.Test.YtnolbgdbboiehaaGreatDx
import Derived.Test.YtnolbgdbboiehaaGreatLK
namespace Go.Proofs.YtnolbgdbboiehaaGreat
open Go.RowKit
set_option linter.unusedVariables false
set_option linter.unusedSimpArgs false
set_option maxHeartbeats 4000000 in
set_option maxRecDepth 100000 in
theorem final_BisimulationQuotients (v : Value) (xs : List (Fin 256)) (w : World) (h : Sl cY w v xs) :
    Calls Tryz.prog 3 #[v] w fun e w' => e = .returned (.bool true) ∧ Below w.heap.size w w' := by
  have A : Hid (Below w.heap.size w w) := Lib.hid (Below.refl _ _)
  go_enter Tryz.func3, Tryz.ntmps3
  replace h := Lib.hid h
  by_cases hbig : 4096 < xs.length
  · have HC := Lib.hid (decide_eq_true hbig ▸ laws_big v xs w h.out)
    clear hbig
    go_wp2_with fail
    refine HC.out.mono ?_
    rintro e w1 ⟨rfl, rfl⟩
    go_wp2
    go_ret
    exact ⟨rfl, A.out⟩
  · have HC := Lib.hid (decide_eq_false hbig ▸ laws_big v xs w h.out)
    have HD := Lib.hid (spec_DrawQuotientModel v xs w h.out (by omega))
    have HDS := Lib.hid (fun W hW => spec_DrawSubformulasOf v xs W hW (by omega))
    clear hbig
    go_wp2_with fail
    refine HC.out.mono ?_
    rintro e w1 ⟨rfl, rfl⟩
    clear HC
    go_wp2_with fail
    refine (HD.out).mono ?_
    rintro e w1 ⟨n, u1, u2, L1, L2, rfl, hn, hL1, hL2, s1, s2, hb⟩
    replace h := Lib.hid (h.out.below hb)
    replace A := Lib.hid (bthen A.out hb)
    clear hb
    clear HD
    by_cases hok : mdOk n L1 L2 = true
    · obtain ⟨ns, us, rfl, rfl, rfl, hr, hl, hb⟩ := mdOk_iff hok
      have h1 : MdN ns us := ⟨hr, hl, hb⟩
      obtain ⟨qs, ts, cl, H, QI, QS, CI, CS, QA, ht⟩ := quot_ok ns us h1
      have h8 := H.m.r.1
      have h8q := H.n.r.1
      have HH := Lib.hid H
      have HT := Lib.hid ht
      replace QI := Lib.hid QI
      replace QS := Lib.hid QS
      replace CI := Lib.hid CI
      replace CS := Lib.hid CS
      replace QA := Lib.hid QA
      have HLq := Lib.hid (li_length qs)
      have HLt : Hid ((li ts).length = 6) := Lib.hid (by rw [li_length, H.n.l])
      have HLc : Hid ((li cl).length = ns.length) := Lib.hid (by rw [li_length, H.l])
      have HMM := Lib.hid (fun A0 A1 B0 B1 C c0 c1 d0 d1 cc W a b c => impl_IsModelMorphism_ok ns us qs ts cl H (mdN_ok7 H.m) (mdN_ok7 H.n) A0 A1 B0 B1 C c0 c1 d0 d1 cc W a b c)
      have HIM := Lib.hid (fun v u W a b => (mdN_ok7 H.n) ▸ impl_IsModel (qs.length : Int) v u (li qs) (li ts) W a b (by rw [li_length]; omega) (by rw [HLt.out]; omega))
      obtain ⟨A1, c1, rfl⟩ := s1.opn
      obtain ⟨A2, c2, rfl⟩ := s2.opn
      rw [li_length] at s1
      rw [li_length, hl] at s2
      rw [li_length, li_length, hl]
      have HM : Hid (Mdl w1 (.slice A1 ns.length c1) (.slice A2 6 c2) ns us) := Lib.hid ⟨s1, s2⟩
      clear s1 s2 hr hl hb h1 hok hL1 hL2 hn H ht
      go_upto_region 4 with fail
      have hb := below_alloc' w1 (.cells #[.int .i64 (ns.length : Int), .slice A1 ns.length c1, .slice A2 6 c2] 28)
      have T3 := Lib.hid (Bk.new w1 #[.int .i64 (ns.length : Int), .slice A1 ns.length c1, .slice A2 6 c2] 28)
      replace h := Lib.hid (h.out.below hb)
      replace HM := Lib.hid (HM.out.below hb)
      replace A := Lib.hid (bthen A.out hb)
      clear hb
      generalize World.alloc w1 _ = w2 at *
      have T3s := T3.out.1
      have T3c := T3.out.2
      go_wp2_with fail
      clear T3s T3c
      refine (QI.out _ _ _ _ _ HM.out).mono ?_
      rintro e w3 ⟨a4, b4, rfl, Sa4, Sb4, hb⟩
      replace h := Lib.hid (h.out.below hb)
      replace HM := Lib.hid (HM.out.below hb)
      replace T3 := Lib.hid (T3.out.below hb)
      replace A := Lib.hid (bthen A.out hb)
      clear hb
      obtain ⟨Aa4, ca4, rfl⟩ := Sa4.opn
      obtain ⟨Ab4, cb4, rfl⟩ := Sb4.opn
      rw [HLq.out] at Sa4
      rw [HLt.out] at Sb4
      rw [HLq.out, HLt.out]
      replace Sa4 := Lib.hid Sa4
      replace Sb4 := Lib.hid Sb4
      go_upto_region 5 with fail
      have hb := below_alloc' w3 (.cells #[.int .i64 (qs.length : Int), .slice Aa4 qs.length ca4, .slice Ab4 6 cb4] 28)
      have T4 := Lib.hid (Bk.new w3 #[.int .i64 (qs.length : Int), .slice Aa4 qs.length ca4, .slice Ab4 6 cb4] 28)
      replace h := Lib.hid (h.out.below hb)
      replace HM := Lib.hid (HM.out.below hb)
      replace T3 := Lib.hid (T3.out.below hb)
      replace Sa4 := Lib.hid (Sa4.out.below hb)
      replace Sb4 := Lib.hid (Sb4.out.below hb)
      replace A := Lib.hid (bthen A.out hb)
      clear hb
      generalize World.alloc w3 _ = w4 at *
      have T3s := T3.out.1
      have T3c := T3.out.2
      go_wp2_with fail
      clear T3s T3c
      refine (QS.out _ _ _ _ _ HM.out).mono ?_
      rintro e w5 ⟨a6, b6, rfl, Sa6, Sb6, hb⟩
      replace h := Lib.hid (h.out.below hb)
      replace HM := Lib.hid (HM.out.below hb)
      replace T3 := Lib.hid (T3.out.below hb)
      replace Sa4 := Lib.hid (Sa4.out.below hb)
      replace Sb4 := Lib.hid (Sb4.out.below hb)
      replace T4 := Lib.hid (T4.out.below hb)
      replace A := Lib.hid (bthen A.out hb)
      clear hb
      obtain ⟨Aa6, ca6, rfl⟩ := Sa6.opn
      obtain ⟨Ab6, cb6, rfl⟩ := Sb6.opn
      rw [HLq.out] at Sa6
      rw [HLt.out] at Sb6
      rw [HLq.out, HLt.out]
      replace Sa6 := Lib.hid Sa6
      replace Sb6 := Lib.hid Sb6
      go_upto_region 6 with fail
      have hb := below_alloc' w5 (.cells #[.int .i64 (qs.length : Int), .slice Aa6 qs.length ca6, .slice Ab6 6 cb6] 28)
      have T6 := Lib.hid (Bk.new w5 #[.int .i64 (qs.length : Int), .slice Aa6 qs.length ca6, .slice Ab6 6 cb6] 28)
      replace h := Lib.hid (h.out.below hb)
      replace HM := Lib.hid (HM.out.below hb)
      replace T3 := Lib.hid (T3.out.below hb)
      replace Sa4 := Lib.hid (Sa4.out.below hb)
      replace Sb4 := Lib.hid (Sb4.out.below hb)
      replace T4 := Lib.hid (T4.out.below hb)
      replace Sa6 := Lib.hid (Sa6.out.below hb)
      replace Sb6 := Lib.hid (Sb6.out.below hb)
      replace A := Lib.hid (bthen A.out hb)
      clear hb
      generalize World.alloc w5 _ = w6 at *
      have T3s := T3.out.1
      have T3c := T3.out.2
      go_wp2_with fail
      clear T3s T3c
      refine (CI.out _ _ _ _ _ HM.out).mono ?_
      rintro e w7 ⟨r8, rfl, S8, hb⟩
      replace h := Lib.hid (h.out.below hb)
      replace HM := Lib.hid (HM.out.below hb)
      replace T3 := Lib.hid (T3.out.below hb)
      replace Sa4 := Lib.hid (Sa4.out.below hb)
      replace Sb4 := Lib.hid (Sb4.out.below hb)
      replace T4 := Lib.hid (T4.out.below hb)
      replace Sa6 := Lib.hid (Sa6.out.below hb)
      replace Sb6 := Lib.hid (Sb6.out.below hb)
      replace T6 := Lib.hid (T6.out.below hb)
      replace A := Lib.hid (bthen A.out hb)
      clear hb
      obtain ⟨A8, c8, rfl⟩ := S8.opn
      rw [HLc.out] at S8 ⊢
      replace S8 := Lib.hid S8
      have T3s := T3.out.1
      have T3c := T3.out.2
      go_wp2_with fail
      clear T3s T3c
      refine (CS.out _ _ _ _ _ HM.out).mono ?_
      rintro e w8 ⟨r10, rfl, S10, hb⟩
      replace h := Lib.hid (h.out.below hb)
      replace HM := Lib.hid (HM.out.below hb)
      replace T3 := Lib.hid (T3.out.below hb)
      replace Sa4 := Lib.hid (Sa4.out.below hb)
      replace Sb4 := Lib.hid (Sb4.out.below hb)
      replace T4 := Lib.hid (T4.out.below hb)
      replace Sa6 := Lib.hid (Sa6.out.below hb)
      replace Sb6 := Lib.hid (Sb6.out.below hb)
      replace T6 := Lib.hid (T6.out.below hb)
      replace S8 := Lib.hid (S8.out.below hb)
      replace A := Lib.hid (bthen A.out hb)
      clear hb
      obtain ⟨A10, c10, rfl⟩ := S10.opn
      rw [HLc.out] at S10 ⊢
      replace S10 := Lib.hid S10
      clear QI QS CI CS
      have HLM := Lib.hid (fun W a b c d => laws_likeModel5 (qs.length : Int) (.slice Aa4 qs.length ca4) (.slice Aa6 qs.length ca6) (.slice Ab4 6 cb4) (.slice Ab6 6 cb6) (li qs) (li ts) W a b c d (by rw [HLq.out]; omega) (by rw [HLt.out]; omega))
      have T4s := T4.out.1
      have T4c := T4.out.2
      have T6s := T6.out.1
      have T6c := T6.out.2
      go_wp2_with fail
      clear T4s T4c T6s T6c
      refine (HLM.out _ Sa4.out Sa6.out Sb4.out Sb6.out).mono ?_
      rintro e w9 ⟨rfl, hb⟩
      replace h := Lib.hid (h.out.below hb)
      replace HM := Lib.hid (HM.out.below hb)
      replace T3 := Lib.hid (T3.out.below hb)
      replace Sa4 := Lib.hid (Sa4.out.below hb)
      replace Sb4 := Lib.hid (Sb4.out.below hb)
      replace T4 := Lib.hid (T4.out.below hb)
      replace Sa6 := Lib.hid (Sa6.out.below hb)
      replace Sb6 := Lib.hid (Sb6.out.below hb)
      replace T6 := Lib.hid (T6.out.below hb)
      replace S8 := Lib.hid (S8.out.below hb)
      replace S10 := Lib.hid (S10.out.below hb)
      replace A := Lib.hid (bthen A.out hb)
      clear hb
      clear HLM
      have HLI := Lib.hid (fun W a b => laws_likeInts (.slice A8 ns.length c8) (.slice A10 ns.length c10) (li cl) W a b (by rw [HLc.out]; omega))
      go_wp2_with fail
      refine (HLI.out _ S8.out S10.out).mono ?_
      rintro e w10 ⟨rfl, hb⟩
      replace h := Lib.hid (h.out.below hb)
      replace HM := Lib.hid (HM.out.below hb)
      replace T3 := Lib.hid (T3.out.below hb)
      replace Sa4 := Lib.hid (Sa4.out.below hb)
      replace Sb4 := Lib.hid (Sb4.out.below hb)
      replace T4 := Lib.hid (T4.out.below hb)
      replace Sa6 := Lib.hid (Sa6.out.below hb)
      replace Sb6 := Lib.hid (Sb6.out.below hb)
      replace T6 := Lib.hid (T6.out.below hb)
      replace S8 := Lib.hid (S8.out.below hb)
      replace S10 := Lib.hid (S10.out.below hb)
      replace A := Lib.hid (bthen A.out hb)
      clear hb
      clear HLI
      have T3s := T3.out.1
      have T3c := T3.out.2
      have T6s := T6.out.1
      have T6c := T6.out.2
      go_wp2_with fail
      clear T3s T3c T6s T6c
      refine (HMM.out _ _ _ _ _ _ _ _ _ _ _ HM.out ⟨Sa6.out, Sb6.out⟩ S10.out).mono ?_
      rintro e w11 ⟨rfl, hb⟩
      replace h := Lib.hid (h.out.below hb)
      replace HM := Lib.hid (HM.out.below hb)
      replace T3 := Lib.hid (T3.out.below hb)
      replace Sa4 := Lib.hid (Sa4.out.below hb)
      replace Sb4 := Lib.hid (Sb4.out.below hb)
      replace T4 := Lib.hid (T4.out.below hb)
      replace Sa6 := Lib.hid (Sa6.out.below hb)
      replace Sb6 := Lib.hid (Sb6.out.below hb)
      replace T6 := Lib.hid (T6.out.below hb)
      replace S8 := Lib.hid (S8.out.below hb)
      replace S10 := Lib.hid (S10.out.below hb)
      replace A := Lib.hid (bthen A.out hb)
      clear hb
      clear HMM
      have T6s := T6.out.1
      have T6c := T6.out.2
      go_wp2_with fail
      clear T6s T6c
      refine (QA.out _ _ _ _ _ ⟨Sa6.out, Sb6.out⟩).mono ?_
      rintro e w12 ⟨a14, b14, rfl, Sa14, Sb14, hb⟩
      replace h := Lib.hid (h.out.below hb)
      replace HM := Lib.hid (HM.out.below hb)
      replace T3 := Lib.hid (T3.out.below hb)
      replace Sa4 := Lib.hid (Sa4.out.below hb)
      replace Sb4 := Lib.hid (Sb4.out.below hb)
      replace T4 := Lib.hid (T4.out.below hb)
      replace Sa6 := Lib.hid (Sa6.out.below hb)
      replace Sb6 := Lib.hid (Sb6.out.below hb)
      replace T6 := Lib.hid (T6.out.below hb)
      replace S8 := Lib.hid (S8.out.below hb)
      replace S10 := Lib.hid (S10.out.below hb)
      replace A := Lib.hid (bthen A.out hb)
      clear hb
      obtain ⟨Aa14, ca14, rfl⟩ := Sa14.opn
      obtain ⟨Ab14, cb14, rfl⟩ := Sb14.opn
      rw [HLq.out] at Sa14
      rw [HLt.out] at Sb14
      rw [HLq.out, HLt.out]
      replace Sa14 := Lib.hid Sa14
      replace Sb14 := Lib.hid Sb14
      go_upto_region 14 with fail
      have hb := below_alloc' w12 (.cells #[.int .i64 (qs.length : Int), .slice Aa14 qs.length ca14, .slice Ab14 6 cb14] 28)
      have T14 := Lib.hid (Bk.new w12 #[.int .i64 (qs.length : Int), .slice Aa14 qs.length ca14, .slice Ab14 6 cb14] 28)
      replace h := Lib.hid (h.out.below hb)
      replace HM := Lib.hid (HM.out.below hb)
      replace T3 := Lib.hid (T3.out.below hb)
      replace Sa4 := Lib.hid (Sa4.out.below hb)
      replace Sb4 := Lib.hid (Sb4.out.below hb)
      replace T4 := Lib.hid (T4.out.below hb)
      replace Sa6 := Lib.hid (Sa6.out.below hb)
      replace Sb6 := Lib.hid (Sb6.out.below hb)
      replace T6 := Lib.hid (T6.out.below hb)
      replace S8 := Lib.hid (S8.out.below hb)
      replace S10 := Lib.hid (S10.out.below hb)
      replace Sa14 := Lib.hid (Sa14.out.below hb)
      replace Sb14 := Lib.hid (Sb14.out.below hb)
      replace A := Lib.hid (bthen A.out hb)
      clear hb
      generalize World.alloc w12 _ = w13 at *
      clear QA
      go_wp2_with fail
      refine (HDS.out _ h.out).mono ?_
      rintro e w14 ⟨u16, L3, rfl, hL3, S16, hb⟩
      replace h := Lib.hid (h.out.below hb)
      replace HM := Lib.hid (HM.out.below hb)
      replace T3 := Lib.hid (T3.out.below hb)
      replace Sa4 := Lib.hid (Sa4.out.below hb)
      replace Sb4 := Lib.hid (Sb4.out.below hb)
      replace T4 := Lib.hid (T4.out.below hb)
      replace Sa6 := Lib.hid (Sa6.out.below hb)
      replace Sb6 := Lib.hid (Sb6.out.below hb)
      replace T6 := Lib.hid (T6.out.below hb)
      replace S8 := Lib.hid (S8.out.below hb)
      replace S10 := Lib.hid (S10.out.below hb)
      replace Sa14 := Lib.hid (Sa14.out.below hb)
      replace Sb14 := Lib.hid (Sb14.out.below hb)
      replace T14 := Lib.hid (T14.out.below hb)
      replace A := Lib.hid (bthen A.out hb)
      clear hb
      replace S16 := Lib.hid S16
      obtain ⟨T1, T2, k, hT1, hT2, Y1, Y2, Y3, Y4, hk⟩ := truth_both ns us qs ts cl HH.out HT.out L3 hL3
      replace Y1 := Lib.hid Y1
      replace Y2 := Lib.hid Y2
      replace Y3 := Lib.hid Y3
      replace Y4 := Lib.hid Y4
      replace hk := Lib.hid hk
      obtain ⟨A16, c16, rfl⟩ := S16.out.opn
      clear HDS HT hL3 h
      have T3s := T3.out.1
      have T3c := T3.out.2
      go_wp2_with fail
      clear T3s T3c
      refine (Y1.out _ _ _ _ _ _ HM.out S16.out).mono ?_
      rintro e w15 ⟨rfl, hb⟩
      replace HM := Lib.hid (HM.out.below hb)
      replace T3 := Lib.hid (T3.out.below hb)
      replace Sa4 := Lib.hid (Sa4.out.below hb)
      replace Sb4 := Lib.hid (Sb4.out.below hb)
      replace T4 := Lib.hid (T4.out.below hb)
      replace Sa6 := Lib.hid (Sa6.out.below hb)
      replace Sb6 := Lib.hid (Sb6.out.below hb)
      replace T6 := Lib.hid (T6.out.below hb)
      replace S8 := Lib.hid (S8.out.below hb)
      replace S10 := Lib.hid (S10.out.below hb)
      replace Sa14 := Lib.hid (Sa14.out.below hb)
      replace Sb14 := Lib.hid (Sb14.out.below hb)
      replace T14 := Lib.hid (T14.out.below hb)
      replace S16 := Lib.hid (S16.out.below hb)
      replace A := Lib.hid (bthen A.out hb)
      clear hb
      have T6s := T6.out.1
      have T6c := T6.out.2
      go_wp2_with fail
      clear T6s T6c
      refine (Y2.out _ _ _ _ _ _ ⟨Sa6.out, Sb6.out⟩ S16.out).mono ?_
      rintro e w16 ⟨rfl, hb⟩
      replace HM := Lib.hid (HM.out.below hb)
      replace T3 := Lib.hid (T3.out.below hb)
      replace Sa4 := Lib.hid (Sa4.out.below hb)
      replace Sb4 := Lib.hid (Sb4.out.below hb)
      replace T4 := Lib.hid (T4.out.below hb)
      replace Sa6 := Lib.hid (Sa6.out.below hb)
      replace Sb6 := Lib.hid (Sb6.out.below hb)
      replace T6 := Lib.hid (T6.out.below hb)
      replace S8 := Lib.hid (S8.out.below hb)
      replace S10 := Lib.hid (S10.out.below hb)
      replace Sa14 := Lib.hid (Sa14.out.below hb)
      replace Sb14 := Lib.hid (Sb14.out.below hb)
      replace T14 := Lib.hid (T14.out.below hb)
      replace S16 := Lib.hid (S16.out.below hb)
      replace A := Lib.hid (bthen A.out hb)
      clear hb
      have T3s := T3.out.1
      have T3c := T3.out.2
      go_wp2_with fail
      clear T3s T3c
      refine (Y3.out _ _ _ _ _ _ HM.out S16.out).mono ?_
      rintro e w17 ⟨rfl, hb⟩
      replace HM := Lib.hid (HM.out.below hb)
      replace T3 := Lib.hid (T3.out.below hb)
      replace Sa4 := Lib.hid (Sa4.out.below hb)
      replace Sb4 := Lib.hid (Sb4.out.below hb)
      replace T4 := Lib.hid (T4.out.below hb)
      replace Sa6 := Lib.hid (Sa6.out.below hb)
      replace Sb6 := Lib.hid (Sb6.out.below hb)
      replace T6 := Lib.hid (T6.out.below hb)
      replace S8 := Lib.hid (S8.out.below hb)
      replace S10 := Lib.hid (S10.out.below hb)
      replace Sa14 := Lib.hid (Sa14.out.below hb)
      replace Sb14 := Lib.hid (Sb14.out.below hb)
      replace T14 := Lib.hid (T14.out.below hb)
      replace S16 := Lib.hid (S16.out.below hb)
      replace A := Lib.hid (bthen A.out hb)
      clear hb
      have T6s := T6.out.1
      have T6c := T6.out.2
      go_wp2_with fail
      clear T6s T6c
      refine (Y4.out _ _ _ _ _ _ ⟨Sa6.out, Sb6.out⟩ S16.out).mono ?_
      rintro e w18 ⟨rfl, hb⟩
      replace HM := Lib.hid (HM.out.below hb)
      replace T3 := Lib.hid (T3.out.below hb)
      replace Sa4 := Lib.hid (Sa4.out.below hb)
      replace Sb4 := Lib.hid (Sb4.out.below hb)
      replace T4 := Lib.hid (T4.out.below hb)
      replace Sa6 := Lib.hid (Sa6.out.below hb)
      replace Sb6 := Lib.hid (Sb6.out.below hb)
      replace T6 := Lib.hid (T6.out.below hb)
      replace S8 := Lib.hid (S8.out.below hb)
      replace S10 := Lib.hid (S10.out.below hb)
      replace Sa14 := Lib.hid (Sa14.out.below hb)
      replace Sb14 := Lib.hid (Sb14.out.below hb)
      replace T14 := Lib.hid (T14.out.below hb)
      replace S16 := Lib.hid (S16.out.below hb)
      replace A := Lib.hid (bthen A.out hb)
      clear hb
      clear Y1 Y2 Y3 Y4
      have HLM := Lib.hid (fun W a b c d => laws_likeModel5 (qs.length : Int) (.slice Aa14 qs.length ca14) (.slice Aa6 qs.length ca6) (.slice Ab14 6 cb14) (.slice Ab6 6 cb6) (li qs) (li ts) W a b c d (by rw [HLq.out]; omega) (by rw [HLt.out]; omega))
      have T14s := T14.out.1
      have T14c := T14.out.2
      have T6s := T6.out.1
      have T6c := T6.out.2
      go_wp2_with fail
      clear T14s T14c T6s T6c
      refine (HLM.out _ Sa14.out Sa6.out Sb14.out Sb6.out).mono ?_
      rintro e w19 ⟨rfl, hb⟩
      replace HM := Lib.hid (HM.out.below hb)
      replace T3 := Lib.hid (T3.out.below hb)
      replace Sa4 := Lib.hid (Sa4.out.below hb)
      replace Sb4 := Lib.hid (Sb4.out.below hb)
      replace T4 := Lib.hid (T4.out.below hb)
      replace Sa6 := Lib.hid (Sa6.out.below hb)
      replace Sb6 := Lib.hid (Sb6.out.below hb)
      replace T6 := Lib.hid (T6.out.below hb)
      replace S8 := Lib.hid (S8.out.below hb)
      replace S10 := Lib.hid (S10.out.below hb)
      replace Sa14 := Lib.hid (Sa14.out.below hb)
      replace Sb14 := Lib.hid (Sb14.out.below hb)
      replace T14 := Lib.hid (T14.out.below hb)
      replace S16 := Lib.hid (S16.out.below hb)
      replace A := Lib.hid (bthen A.out hb)
      clear hb
      clear HLM
      go_upto_region 22 with fail
      rcases hk.out with ⟨rfl, hbit⟩ | rfl
      · have HBIT := Lib.hid hbit
        clear hbit hk
        go_loopw [25] (fun i wr => ∃ j : Nat, j ≤ ns.length ∧ i = .int .i64 (j : Int) ∧ Below w19.heap.size w19 wr) (fun i _ => ns.length - (intOf i).toNat)
        case atStart => exact ⟨0, Nat.zero_le _, rfl, Below.refl _ _⟩
        case round =>
          obtain ⟨j, hj, rfl, hbl⟩ := hrel
          have HBL := Lib.hid hbl
          replace HM := Lib.hid (HM.out.below hbl)
          replace T3 := Lib.hid (T3.out.below hbl)
          replace Sa4 := Lib.hid (Sa4.out.below hbl)
          replace Sb4 := Lib.hid (Sb4.out.below hbl)
          replace T4 := Lib.hid (T4.out.below hbl)
          replace Sa6 := Lib.hid (Sa6.out.below hbl)
          replace Sb6 := Lib.hid (Sb6.out.below hbl)
          replace T6 := Lib.hid (T6.out.below hbl)
          replace S8 := Lib.hid (S8.out.below hbl)
          replace S10 := Lib.hid (S10.out.below hbl)
          replace Sa14 := Lib.hid (Sa14.out.below hbl)
          replace Sb14 := Lib.hid (Sb14.out.below hbl)
          replace T14 := Lib.hid (T14.out.below hbl)
          replace S16 := Lib.hid (S16.out.below hbl)
          replace A := Lib.hid (bthen A.out hbl)
          clear hbl
          by_cases hlt : j < ns.length
          · obtain ⟨b, o, rfl, hb, ca⟩ := S10.out.atI (k := j) (by rw [HLc.out]; exact hlt)
            rw [li_get] at ca
            have hz : cl.getD j 0 < 64 := by have := HH.out.b _ (getD_mem (show j < cl.length by rw [HH.out.l]; exact hlt)); omega
            have e1 := HBIT.out j hlt
            generalize cl.getD j 0 = z at *
            obtain ⟨y, hy⟩ : ∃ y, T2.testBit z = y := ⟨_, rfl⟩
            rw [hy] at e1
            have Q1 := Lib.hid (q_bit5 e1 hT1 (by omega) wr)
            have Q2 := Lib.hid (q_bit5 hy hT2 hz wr)
            clear e1 hy hz
            go_wp2
            go_quiet ((go_at_call 18; first | with_reducible exact Q1.out _ | with_reducible exact Q2.out _))
            go_wp2
            go_roundw
            case rel => exact ⟨j + 1, by omega, by go_num, below_drewN HBL.out _⟩
            case measure => simp [intOf]; omega
          · obtain rfl : j = ns.length := by omega
            clear hlt hj HBL
            have T6s := T6.out.1
            have T6c := T6.out.2
            go_wp2_with fail
            clear T6s T6c
            refine (HIM.out _ _ _ Sa6.out Sb6.out).mono ?_
            rintro e w30 ⟨rfl, hb⟩
            replace A := Lib.hid (bthen A.out hb)
            clear hb HIM
            go_wp2
            go_ret
            exact ⟨rfl, A.out⟩
      · clear hk
        go_loopw [25] (fun i wr => i = .int .i64 0 ∧ Below w19.heap.size w19 wr) (fun _ _ => 0)
        case atStart => exact ⟨rfl, Below.refl _ _⟩
        case round =>
          obtain ⟨rfl, hbl⟩ := hrel
          replace HM := Lib.hid (HM.out.below hbl)
          replace T3 := Lib.hid (T3.out.below hbl)
          replace Sa4 := Lib.hid (Sa4.out.below hbl)
          replace Sb4 := Lib.hid (Sb4.out.below hbl)
          replace T4 := Lib.hid (T4.out.below hbl)
          replace Sa6 := Lib.hid (Sa6.out.below hbl)
          replace Sb6 := Lib.hid (Sb6.out.below hbl)
          replace T6 := Lib.hid (T6.out.below hbl)
          replace S8 := Lib.hid (S8.out.below hbl)
          replace S10 := Lib.hid (S10.out.below hbl)
          replace Sa14 := Lib.hid (Sa14.out.below hbl)
          replace Sb14 := Lib.hid (Sb14.out.below hbl)
          replace T14 := Lib.hid (T14.out.below hbl)
          replace S16 := Lib.hid (S16.out.below hbl)
          replace A := Lib.hid (bthen A.out hbl)
          clear hbl
          by_cases hlt : 0 < ns.length
          · skip
            have T6s := T6.out.1
            have T6c := T6.out.2
            go_wp2_with fail
            clear T6s T6c
            refine (HIM.out _ _ _ Sa6.out Sb6.out).mono ?_
            rintro e w30 ⟨rfl, hb⟩
            replace A := Lib.hid (bthen A.out hb)
            clear hb HIM
            go_wp2
            go_ret
            exact ⟨rfl, A.out⟩
          · skip
            have T6s := T6.out.1
            have T6c := T6.out.2
            go_wp2_with fail
            clear T6s T6c
            refine (HIM.out _ _ _ Sa6.out Sb6.out).mono ?_
            rintro e w30 ⟨rfl, hb⟩
            replace A := Lib.hid (bthen A.out hb)
            clear hb HIM
            go_wp2
            go_ret
            exact ⟨rfl, A.out⟩
    · have hc : mdOk n L1 L2 = false := by simpa using hok
      obtain ⟨A1, c1, rfl⟩ := s1.opn
      obtain ⟨A2, c2, rfl⟩ := s2.opn
      have S1 := Lib.hid s1
      have S2 := Lib.hid s2
      have C0 := Lib.hid (fun W a b => impl_QuotientModel_bad n (.slice A1 L1.length c1) (.slice A2 L2.length c2) L1 L2 W a b (by omega) (by omega) hc)
      have C1 := Lib.hid (fun W a b => spec_QuotientModel_bad n (.slice A1 L1.length c1) (.slice A2 L2.length c2) L1 L2 W a b (by omega) (by omega) hc)
      have C2 := Lib.hid (fun W a b => impl_BisimulationClasses_bad n (.slice A1 L1.length c1) (.slice A2 L2.length c2) L1 L2 W a b (by omega) (by omega) hc)
      have C3 := Lib.hid (fun W a b => spec_BisimulationClasses_bad n (.slice A1 L1.length c1) (.slice A2 L2.length c2) L1 L2 W a b (by omega) (by omega) hc)
      clear s1 s2 hok hc hL1 hL2 hn HDS h
      go_upto_region 4 with fail
      have hb := below_alloc' w1 (.cells #[.int .i64 n, .slice A1 L1.length c1, .slice A2 L2.length c2] 28)
      have T3 := Lib.hid (Bk.new w1 #[.int .i64 n, .slice A1 L1.length c1, .slice A2 L2.length c2] 28)
      replace S1 := Lib.hid (S1.out.below hb)
      replace S2 := Lib.hid (S2.out.below hb)
      replace A := Lib.hid (bthen A.out hb)
      clear hb
      generalize World.alloc w1 _ = w2 at *
      have T3s := T3.out.1
      have T3c := T3.out.2
      go_wp2_with fail
      clear T3s T3c
      refine (C0.out _ S1.out S2.out).mono ?_
      rintro e w3 ⟨rfl, hb⟩
      replace S1 := Lib.hid (S1.out.below hb)
      replace S2 := Lib.hid (S2.out.below hb)
      replace T3 := Lib.hid (T3.out.below hb)
      replace A := Lib.hid (bthen A.out hb)
      clear hb
      go_upto_region 5 with fail
      have hb := below_alloc' w3 (.cells #[.int .i64 0, .slice none 0 0, .slice none 0 0] 28)
      have T4 := Lib.hid (Bk.new w3 #[.int .i64 0, .slice none 0 0, .slice none 0 0] 28)
      replace S1 := Lib.hid (S1.out.below hb)
      replace S2 := Lib.hid (S2.out.below hb)
      replace T3 := Lib.hid (T3.out.below hb)
      replace A := Lib.hid (bthen A.out hb)
      clear hb
      generalize World.alloc w3 _ = w4 at *
      have T3s := T3.out.1
      have T3c := T3.out.2
      go_wp2_with fail
      clear T3s T3c
      refine (C1.out _ S1.out S2.out).mono ?_
      rintro e w5 ⟨rfl, hb⟩
      replace S1 := Lib.hid (S1.out.below hb)
      replace S2 := Lib.hid (S2.out.below hb)
      replace T3 := Lib.hid (T3.out.below hb)
      replace T4 := Lib.hid (T4.out.below hb)
      replace A := Lib.hid (bthen A.out hb)
      clear hb
      go_upto_region 6 with fail
      have hb := below_alloc' w5 (.cells #[.int .i64 0, .slice none 0 0, .slice none 0 0] 28)
      have T6 := Lib.hid (Bk.new w5 #[.int .i64 0, .slice none 0 0, .slice none 0 0] 28)
      replace S1 := Lib.hid (S1.out.below hb)
      replace S2 := Lib.hid (S2.out.below hb)
      replace T3 := Lib.hid (T3.out.below hb)
      replace T4 := Lib.hid (T4.out.below hb)
      replace A := Lib.hid (bthen A.out hb)
      clear hb
      generalize World.alloc w5 _ = w6 at *
      have T3s := T3.out.1
      have T3c := T3.out.2
      go_wp2_with fail
      clear T3s T3c
      refine (C2.out _ S1.out S2.out).mono ?_
      rintro e w7 ⟨rfl, hb⟩
      replace S1 := Lib.hid (S1.out.below hb)
      replace S2 := Lib.hid (S2.out.below hb)
      replace T3 := Lib.hid (T3.out.below hb)
      replace T4 := Lib.hid (T4.out.below hb)
      replace T6 := Lib.hid (T6.out.below hb)
      replace A := Lib.hid (bthen A.out hb)
      clear hb
      have T3s := T3.out.1
      have T3c := T3.out.2
      go_wp2_with fail
      clear T3s T3c
      refine (C3.out _ S1.out S2.out).mono ?_
      rintro e w8 ⟨rfl, hb⟩
      replace S1 := Lib.hid (S1.out.below hb)
      replace S2 := Lib.hid (S2.out.below hb)
      replace T3 := Lib.hid (T3.out.below hb)
      replace T4 := Lib.hid (T4.out.below hb)
      replace T6 := Lib.hid (T6.out.below hb)
      replace A := Lib.hid (bthen A.out hb)
      clear hb
      clear C0 C1 C2 C3 S1 S2
      have T4s := T4.out.1
      have T4c := T4.out.2
      have T6s := T6.out.1
      have T6c := T6.out.2
      go_wp2_with fail
      clear T4s T4c T6s T6c
      refine (laws_likeModel5 0 _ _ _ _ [] [] _ Sl.nil Sl.nil Sl.nil Sl.nil (by simp) (by simp)).mono ?_
      rintro e w9 ⟨rfl, hb⟩
      replace T3 := Lib.hid (T3.out.below hb)
      replace T4 := Lib.hid (T4.out.below hb)
      replace T6 := Lib.hid (T6.out.below hb)
      replace A := Lib.hid (bthen A.out hb)
      clear hb
      go_wp2_with fail
      refine (laws_likeInts _ _ [] _ Sl.nil Sl.nil (by simp)).mono ?_
      rintro e w10 ⟨rfl, hb⟩
      replace T3 := Lib.hid (T3.out.below hb)
      replace T4 := Lib.hid (T4.out.below hb)
      replace T6 := Lib.hid (T6.out.below hb)
      replace A := Lib.hid (bthen A.out hb)
      clear hb
      go_wp2
      go_ret
      exact ⟨rfl, A.out⟩
end Go.Proofs.YtnolbgdbboiehaaGreat

/- The walk of the law FnMerging, written by program (gen24R.py): it returns true and writes nothing that was there. -/
import Derived.Test.YtomojninngdbeaaGreat24L
namespace Go.Proofs.YtomojninngdbeaaGreat
open Go.RowKit
set_option linter.unusedVariables false
set_option linter.unusedSimpArgs false
set_option maxHeartbeats 4000000 in
set_option maxRecDepth 100000 in
theorem final_Merging (v : Value) (xs : List (Fin 256)) (w : World) (h : Sl cY w v xs) :
    Calls Tryz.prog 3 #[v] w fun e w' => e = .returned (.bool true) ∧ Below w.heap.size w w' := by
  have A : Hid (Below w.heap.size w w) := Lib.hid (Below.refl _ _)
  go_enter Tryz.func3, Tryz.ntmps3
  replace h := Lib.hid h
  by_cases hbig : 4096 < xs.length
  · have HC := Lib.hid (decide_eq_true hbig ▸ laws_big v xs w h.out)
    clear hbig
    go_wp2_with fail
    refine HC.out.mono ?_
    rintro e w1 ⟨rfl, rfl⟩
    go_wp2
    go_ret
    exact ⟨rfl, A.out⟩
  · have HC := Lib.hid (decide_eq_false hbig ▸ laws_big v xs w h.out)
    have HD := Lib.hid (spec_DrawMergeAlike v xs w h.out (by omega))
    have HDS := Lib.hid (fun W hW => spec_DrawForcedSet v xs W hW (by omega))
    clear hbig
    go_wp2_with fail
    refine HC.out.mono ?_
    rintro e w1 ⟨rfl, rfl⟩
    clear HC
    go_wp2_with fail
    refine (HD.out).mono ?_
    rintro e w1 ⟨n, u1, u2, L1, L2, rfl, hL1, hL2, s1, s2, hb⟩
    replace h := Lib.hid (h.out.below hb)
    replace A := Lib.hid (bthen A.out hb)
    clear hb
    clear HD
    replace s1 := Lib.hid s1
    replace s2 := Lib.hid s2
    obtain ⟨A1, c1, rfl⟩ := s1.out.opn
    obtain ⟨A2, c2, rfl⟩ := s2.out.opn
    obtain ⟨q, X, Y, Z, k, hX, hY, hZ, MI, MS, hk⟩ := mrg_both n L1 L2 hL1 hL2
    replace MI := Lib.hid MI
    replace MS := Lib.hid MS
    replace hk := Lib.hid hk
    clear hL1 hL2
    have HX9 := Lib.hid hX
    have HY9 := Lib.hid hY
    have HZ9 := Lib.hid hZ
    clear hX hY hZ
    go_upto_region 4 with fail
    have hb := below_alloc' w1 (.cells #[.int .i64 n, .slice A1 L1.length c1] 26)
    have T3 := Lib.hid (Bk.new w1 #[.int .i64 n, .slice A1 L1.length c1] 26)
    replace h := Lib.hid (h.out.below hb)
    replace s1 := Lib.hid (s1.out.below hb)
    replace s2 := Lib.hid (s2.out.below hb)
    replace A := Lib.hid (bthen A.out hb)
    clear hb
    generalize World.alloc w1 _ = w2 at *
    have T3s := T3.out.1
    have T3c := T3.out.2
    go_wp2_with fail
    clear T3s T3c
    refine (MI.out _ _ _ s1.out s2.out).mono ?_
    rintro e w3 ⟨a4, b4, c4, rfl, Sa4, Sb4, Sc4, hb⟩
    replace h := Lib.hid (h.out.below hb)
    replace s1 := Lib.hid (s1.out.below hb)
    replace s2 := Lib.hid (s2.out.below hb)
    replace T3 := Lib.hid (T3.out.below hb)
    replace A := Lib.hid (bthen A.out hb)
    clear hb
    replace Sa4 := Lib.hid Sa4
    replace Sb4 := Lib.hid Sb4
    replace Sc4 := Lib.hid Sc4
    obtain ⟨Aa4, ca4, rfl⟩ := Sa4.out.opn
    obtain ⟨Ab4, cb4, rfl⟩ := Sb4.out.opn
    obtain ⟨Ac4, cc4, rfl⟩ := Sc4.out.opn
    go_upto_region 5 with fail
    have hb := below_alloc' w3 (.cells #[.int .i64 q, .slice Aa4 X.length ca4] 26)
    have T5 := Lib.hid (Bk.new w3 #[.int .i64 q, .slice Aa4 X.length ca4] 26)
    replace h := Lib.hid (h.out.below hb)
    replace s1 := Lib.hid (s1.out.below hb)
    replace s2 := Lib.hid (s2.out.below hb)
    replace T3 := Lib.hid (T3.out.below hb)
    replace Sa4 := Lib.hid (Sa4.out.below hb)
    replace Sb4 := Lib.hid (Sb4.out.below hb)
    replace Sc4 := Lib.hid (Sc4.out.below hb)
    replace A := Lib.hid (bthen A.out hb)
    clear hb
    generalize World.alloc w3 _ = w4 at *
    have T3s := T3.out.1
    have T3c := T3.out.2
    go_wp2_with fail
    clear T3s T3c
    refine (MS.out _ _ _ s1.out s2.out).mono ?_
    rintro e w5 ⟨a6, b6, c6, rfl, Sa6, Sb6, Sc6, hb⟩
    replace h := Lib.hid (h.out.below hb)
    replace s1 := Lib.hid (s1.out.below hb)
    replace s2 := Lib.hid (s2.out.below hb)
    replace T3 := Lib.hid (T3.out.below hb)
    replace Sa4 := Lib.hid (Sa4.out.below hb)
    replace Sb4 := Lib.hid (Sb4.out.below hb)
    replace Sc4 := Lib.hid (Sc4.out.below hb)
    replace T5 := Lib.hid (T5.out.below hb)
    replace A := Lib.hid (bthen A.out hb)
    clear hb
    replace Sa6 := Lib.hid Sa6
    replace Sb6 := Lib.hid Sb6
    replace Sc6 := Lib.hid Sc6
    obtain ⟨Aa6, ca6, rfl⟩ := Sa6.out.opn
    obtain ⟨Ab6, cb6, rfl⟩ := Sb6.out.opn
    obtain ⟨Ac6, cc6, rfl⟩ := Sc6.out.opn
    go_upto_region 6 with fail
    have hb := below_alloc' w5 (.cells #[.int .i64 q, .slice Aa6 X.length ca6] 26)
    have T9 := Lib.hid (Bk.new w5 #[.int .i64 q, .slice Aa6 X.length ca6] 26)
    replace h := Lib.hid (h.out.below hb)
    replace s1 := Lib.hid (s1.out.below hb)
    replace s2 := Lib.hid (s2.out.below hb)
    replace T3 := Lib.hid (T3.out.below hb)
    replace Sa4 := Lib.hid (Sa4.out.below hb)
    replace Sb4 := Lib.hid (Sb4.out.below hb)
    replace Sc4 := Lib.hid (Sc4.out.below hb)
    replace T5 := Lib.hid (T5.out.below hb)
    replace Sa6 := Lib.hid (Sa6.out.below hb)
    replace Sb6 := Lib.hid (Sb6.out.below hb)
    replace Sc6 := Lib.hid (Sc6.out.below hb)
    replace A := Lib.hid (bthen A.out hb)
    clear hb
    generalize World.alloc w5 _ = w6 at *
    clear MI MS
    have HSP := Lib.hid (fun W a b => laws_samePoset9 q (.slice Aa4 X.length ca4) (.slice Aa6 X.length ca6) X W a b (by have := HX9.out; omega))
    have T5s := T5.out.1
    have T5c := T5.out.2
    have T9s := T9.out.1
    have T9c := T9.out.2
    go_wp2_with fail
    clear T5s T5c T9s T9c
    refine (HSP.out _ Sa4.out Sa6.out).mono ?_
    rintro e w7 ⟨rfl, hb⟩
    replace h := Lib.hid (h.out.below hb)
    replace s1 := Lib.hid (s1.out.below hb)
    replace s2 := Lib.hid (s2.out.below hb)
    replace T3 := Lib.hid (T3.out.below hb)
    replace Sa4 := Lib.hid (Sa4.out.below hb)
    replace Sb4 := Lib.hid (Sb4.out.below hb)
    replace Sc4 := Lib.hid (Sc4.out.below hb)
    replace T5 := Lib.hid (T5.out.below hb)
    replace Sa6 := Lib.hid (Sa6.out.below hb)
    replace Sb6 := Lib.hid (Sb6.out.below hb)
    replace Sc6 := Lib.hid (Sc6.out.below hb)
    replace T9 := Lib.hid (T9.out.below hb)
    replace A := Lib.hid (bthen A.out hb)
    clear hb
    have HL1 := Lib.hid (fun W a b => laws_likeInts (.slice Ab4 Y.length cb4) (.slice Ab6 Y.length cb6) Y W a b (by have := HY9.out; omega))
    go_wp2_with fail
    refine (HL1.out _ Sb4.out Sb6.out).mono ?_
    rintro e w8 ⟨rfl, hb⟩
    replace h := Lib.hid (h.out.below hb)
    replace s1 := Lib.hid (s1.out.below hb)
    replace s2 := Lib.hid (s2.out.below hb)
    replace T3 := Lib.hid (T3.out.below hb)
    replace Sa4 := Lib.hid (Sa4.out.below hb)
    replace Sb4 := Lib.hid (Sb4.out.below hb)
    replace Sc4 := Lib.hid (Sc4.out.below hb)
    replace T5 := Lib.hid (T5.out.below hb)
    replace Sa6 := Lib.hid (Sa6.out.below hb)
    replace Sb6 := Lib.hid (Sb6.out.below hb)
    replace Sc6 := Lib.hid (Sc6.out.below hb)
    replace T9 := Lib.hid (T9.out.below hb)
    replace A := Lib.hid (bthen A.out hb)
    clear hb
    have HL2 := Lib.hid (fun W a b => laws_likeInts (.slice Ac4 Z.length cc4) (.slice Ac6 Z.length cc6) Z W a b (by have := HZ9.out; omega))
    go_wp2_with fail
    refine (HL2.out _ Sc4.out Sc6.out).mono ?_
    rintro e w9 ⟨rfl, hb⟩
    replace h := Lib.hid (h.out.below hb)
    replace s1 := Lib.hid (s1.out.below hb)
    replace s2 := Lib.hid (s2.out.below hb)
    replace T3 := Lib.hid (T3.out.below hb)
    replace Sa4 := Lib.hid (Sa4.out.below hb)
    replace Sb4 := Lib.hid (Sb4.out.below hb)
    replace Sc4 := Lib.hid (Sc4.out.below hb)
    replace T5 := Lib.hid (T5.out.below hb)
    replace Sa6 := Lib.hid (Sa6.out.below hb)
    replace Sb6 := Lib.hid (Sb6.out.below hb)
    replace Sc6 := Lib.hid (Sc6.out.below hb)
    replace T9 := Lib.hid (T9.out.below hb)
    replace A := Lib.hid (bthen A.out hb)
    clear hb
    clear HSP HL1 HL2 Sa6 Sb6 Sc6 T9
    rcases hk.out with hk0 | ⟨rfl, ns, us, rfl, rfl, rfl, hm, hvl, hp, hui, h6, rfl, rfl, rfl, rfl⟩
    · have hk1 : (k == 0) = false := beq_eq_false_iff_ne.2 hk0
      have hk2 : (k != 0) = true := bne_iff_ne.2 hk0
      clear hk hk0
      go_wp2
      go_ret
      exact ⟨rfl, A.out⟩
    · clear hk
      have HM := Lib.hid hm
      have HVL := Lib.hid hvl
      have HPP := Lib.hid hp
      have HUI := Lib.hid hui
      have HQ := Lib.hid (q_vl hm hp hui)
      have h8 := hm.r.1
      have HAG := Lib.hid (mrg_again hm hp hui h6)
      have HSQ := Lib.hid (fun v u W a b => laws_samePoset9 (qn ns us : Nat) v u (li (QM ns us).1) W a b (by have := HX9.out; omega))
      have HLn := Lib.hid (li_length ns)
      have HLu : Hid ((li us).length = 6) := Lib.hid (by rw [li_length, hm.l])
      have HLx : Hid ((li (QM ns us).1).length = qn ns us) := Lib.hid (by rw [li_length, QM_len])
      have HLy : Hid ((li (QM ns us).2).length = 6) := Lib.hid (by rw [li_length, (QM_ok hm).l])
      have HLz : Hid ((li (qcl ns us)).length = ns.length) := Lib.hid (by rw [li_length, qcl_length])
      rw [HLn.out] at s1 T3
      rw [HLu.out] at s2
      rw [HLx.out] at Sa4 T5
      rw [HLy.out] at Sb4
      rw [HLz.out] at Sc4
      rw [HLn.out, HLu.out, HLx.out, HLy.out, HLz.out]
      have HQL := Lib.hid (show (QM ns us).1.length = qn ns us from QM_len ns us)
      clear HX9 HY9 HZ9 hvl hp hui
      go_wp2_with fail
      refine (HDS.out _ h.out).mono ?_
      rintro e w10 ⟨n9, B9, k9, d9, x9, u10, L3, rfl, hL3, S9, hb⟩
      replace h := Lib.hid (h.out.below hb)
      replace s1 := Lib.hid (s1.out.below hb)
      replace s2 := Lib.hid (s2.out.below hb)
      replace T3 := Lib.hid (T3.out.below hb)
      replace Sa4 := Lib.hid (Sa4.out.below hb)
      replace Sb4 := Lib.hid (Sb4.out.below hb)
      replace Sc4 := Lib.hid (Sc4.out.below hb)
      replace T5 := Lib.hid (T5.out.below hb)
      replace A := Lib.hid (bthen A.out hb)
      clear hb
      replace S9 := Lib.hid S9
      obtain ⟨A9, c9, rfl⟩ := S9.out.opn
      clear HDS h
      go_upto_region 11 with fail
      have hb := below_alloc' w10 (.cells #[.int .i64 n9, .slice B9 k9 d9] 26)
      have T13 := Lib.hid (Bk.new w10 #[.int .i64 n9, .slice B9 k9 d9] 26)
      replace s1 := Lib.hid (s1.out.below hb)
      replace s2 := Lib.hid (s2.out.below hb)
      replace T3 := Lib.hid (T3.out.below hb)
      replace Sa4 := Lib.hid (Sa4.out.below hb)
      replace Sb4 := Lib.hid (Sb4.out.below hb)
      replace Sc4 := Lib.hid (Sc4.out.below hb)
      replace T5 := Lib.hid (T5.out.below hb)
      replace S9 := Lib.hid (S9.out.below hb)
      replace A := Lib.hid (bthen A.out hb)
      clear hb
      generalize World.alloc w10 _ = w11 at *
      clear T13
      have HL3 := Lib.hid hL3
      clear hL3
      rcases pcode_cases L3 with hpc | ⟨f, rfl, hok, hpl, hfl⟩
      · have NF := Lib.hid (fun W a b c => impl_ForcedSet_no ns us (.slice A1 ns.length c1) (.slice A2 6 c2) (.slice A9 L3.length c9) L3 W a b c hm HVL.out (by have := HL3.out; omega) hpc)
        have NQ := Lib.hid (fun W a b c => impl_ForcedSet_no (QM ns us).1 (QM ns us).2 (.slice Aa4 (qn ns us) ca4) (.slice Ab4 6 cb4) (.slice A9 L3.length c9) L3 W a b c (QM_ok hm) (by rw [HQL.out]; exact HQ.out) (by have := HL3.out; omega) hpc)
        rw [HQL.out] at NQ
        generalize pcode [L3] = kk at *
        have hk1 : (kk == 0) = false := beq_eq_false_iff_ne.2 hpc
        have hk2 : (kk != 0) = true := bne_iff_ne.2 hpc
        have hk3 : (kk != kk) = false := by simp
        have HKK := Lib.hid hk1
        have HK3 := Lib.hid hk3
        clear hpc hm hk1 hk2 hk3
        have T3s := T3.out.1
        have T3c := T3.out.2
        go_wp2_with fail
        clear T3s T3c
        refine (NF.out _ s1.out s2.out S9.out).mono ?_
        rintro e w12 ⟨rfl, hb⟩
        replace s1 := Lib.hid (s1.out.below hb)
        replace s2 := Lib.hid (s2.out.below hb)
        replace T3 := Lib.hid (T3.out.below hb)
        replace Sa4 := Lib.hid (Sa4.out.below hb)
        replace Sb4 := Lib.hid (Sb4.out.below hb)
        replace Sc4 := Lib.hid (Sc4.out.below hb)
        replace T5 := Lib.hid (T5.out.below hb)
        replace S9 := Lib.hid (S9.out.below hb)
        replace A := Lib.hid (bthen A.out hb)
        clear hb
        have T5s := T5.out.1
        have T5c := T5.out.2
        go_wp2_with fail
        clear T5s T5c
        refine (NQ.out _ Sa4.out Sb4.out S9.out).mono ?_
        rintro e w13 ⟨rfl, hb⟩
        replace s1 := Lib.hid (s1.out.below hb)
        replace s2 := Lib.hid (s2.out.below hb)
        replace T3 := Lib.hid (T3.out.below hb)
        replace Sa4 := Lib.hid (Sa4.out.below hb)
        replace Sb4 := Lib.hid (Sb4.out.below hb)
        replace Sc4 := Lib.hid (Sc4.out.below hb)
        replace T5 := Lib.hid (T5.out.below hb)
        replace S9 := Lib.hid (S9.out.below hb)
        replace A := Lib.hid (bthen A.out hb)
        clear hb
        clear NF NQ
        have hk1 := HKK.out
        have hk3 := HK3.out
        go_upto_region 15 with fail
        have t3s := T3.out.1
        have t3c := T3.out.2
        go_wp2
        clear t3s t3c
        go_loopw [20] (fun i wr => i = .int .i64 0 ∧ Below w13.heap.size w13 wr) (fun _ _ => 0)
        case atStart => exact ⟨rfl, Below.refl _ _⟩
        case round =>
          obtain ⟨rfl, hbl⟩ := hrel
          replace s1 := Lib.hid (s1.out.below hbl)
          replace s2 := Lib.hid (s2.out.below hbl)
          replace T3 := Lib.hid (T3.out.below hbl)
          replace Sa4 := Lib.hid (Sa4.out.below hbl)
          replace Sb4 := Lib.hid (Sb4.out.below hbl)
          replace Sc4 := Lib.hid (Sc4.out.below hbl)
          replace T5 := Lib.hid (T5.out.below hbl)
          replace S9 := Lib.hid (S9.out.below hbl)
          replace A := Lib.hid (bthen A.out hbl)
          clear hbl
          have hk1 := HKK.out
          have t3s := T3.out.1
          have t3c := T3.out.2
          by_cases hlt : 0 < ns.length
          · skip
            have i0 : ((0 : Nat) : Int) < (ns.length : Int) := by omega
            have T5s := T5.out.1
            have T5c := T5.out.2
            go_wp2_with fail
            clear T5s T5c
            refine (HAG.out _ _ _ Sa4.out Sb4.out).mono ?_
            rintro e w14 ⟨a26, b26, c26, rfl, S26, hb⟩
            replace s1 := Lib.hid (s1.out.below hb)
            replace s2 := Lib.hid (s2.out.below hb)
            replace T3 := Lib.hid (T3.out.below hb)
            replace Sa4 := Lib.hid (Sa4.out.below hb)
            replace Sb4 := Lib.hid (Sb4.out.below hb)
            replace Sc4 := Lib.hid (Sc4.out.below hb)
            replace T5 := Lib.hid (T5.out.below hb)
            replace S9 := Lib.hid (S9.out.below hb)
            replace A := Lib.hid (bthen A.out hb)
            clear hb
            replace S26 := Lib.hid S26
            obtain ⟨A26, c26_, rfl⟩ := S26.out.opn
            rw [HLx.out] at S26 ⊢
            go_upto_region 25 with fail
            have hb := below_alloc' w14 (.cells #[.int .i64 (qn ns us : Nat), .slice A26 (qn ns us) c26_] 26)
            have T26 := Lib.hid (Bk.new w14 #[.int .i64 (qn ns us : Nat), .slice A26 (qn ns us) c26_] 26)
            replace s1 := Lib.hid (s1.out.below hb)
            replace s2 := Lib.hid (s2.out.below hb)
            replace T3 := Lib.hid (T3.out.below hb)
            replace Sa4 := Lib.hid (Sa4.out.below hb)
            replace Sb4 := Lib.hid (Sb4.out.below hb)
            replace Sc4 := Lib.hid (Sc4.out.below hb)
            replace T5 := Lib.hid (T5.out.below hb)
            replace S9 := Lib.hid (S9.out.below hb)
            replace S26 := Lib.hid (S26.out.below hb)
            replace A := Lib.hid (bthen A.out hb)
            clear hb
            generalize World.alloc w14 _ = w15 at *
            have T5s := T5.out.1
            have T5c := T5.out.2
            have T26s := T26.out.1
            have T26c := T26.out.2
            go_wp2_with fail
            clear T5s T5c T26s T26c
            refine (HSQ.out _ _ _ S26.out Sa4.out).mono ?_
            rintro e w16 ⟨rfl, hb⟩
            replace s1 := Lib.hid (s1.out.below hb)
            replace s2 := Lib.hid (s2.out.below hb)
            replace T3 := Lib.hid (T3.out.below hb)
            replace Sa4 := Lib.hid (Sa4.out.below hb)
            replace Sb4 := Lib.hid (Sb4.out.below hb)
            replace Sc4 := Lib.hid (Sc4.out.below hb)
            replace T5 := Lib.hid (T5.out.below hb)
            replace S9 := Lib.hid (S9.out.below hb)
            replace S26 := Lib.hid (S26.out.below hb)
            replace T26 := Lib.hid (T26.out.below hb)
            replace A := Lib.hid (bthen A.out hb)
            clear hb
            go_wp2
            go_ret
            exact ⟨rfl, A.out⟩
          · skip
            have i0 : ¬ (0 : Int) < (ns.length : Int) := by omega
            have T5s := T5.out.1
            have T5c := T5.out.2
            go_wp2_with fail
            clear T5s T5c
            refine (HAG.out _ _ _ Sa4.out Sb4.out).mono ?_
            rintro e w14 ⟨a26, b26, c26, rfl, S26, hb⟩
            replace s1 := Lib.hid (s1.out.below hb)
            replace s2 := Lib.hid (s2.out.below hb)
            replace T3 := Lib.hid (T3.out.below hb)
            replace Sa4 := Lib.hid (Sa4.out.below hb)
            replace Sb4 := Lib.hid (Sb4.out.below hb)
            replace Sc4 := Lib.hid (Sc4.out.below hb)
            replace T5 := Lib.hid (T5.out.below hb)
            replace S9 := Lib.hid (S9.out.below hb)
            replace A := Lib.hid (bthen A.out hb)
            clear hb
            replace S26 := Lib.hid S26
            obtain ⟨A26, c26_, rfl⟩ := S26.out.opn
            rw [HLx.out] at S26 ⊢
            go_upto_region 25 with fail
            have hb := below_alloc' w14 (.cells #[.int .i64 (qn ns us : Nat), .slice A26 (qn ns us) c26_] 26)
            have T26 := Lib.hid (Bk.new w14 #[.int .i64 (qn ns us : Nat), .slice A26 (qn ns us) c26_] 26)
            replace s1 := Lib.hid (s1.out.below hb)
            replace s2 := Lib.hid (s2.out.below hb)
            replace T3 := Lib.hid (T3.out.below hb)
            replace Sa4 := Lib.hid (Sa4.out.below hb)
            replace Sb4 := Lib.hid (Sb4.out.below hb)
            replace Sc4 := Lib.hid (Sc4.out.below hb)
            replace T5 := Lib.hid (T5.out.below hb)
            replace S9 := Lib.hid (S9.out.below hb)
            replace S26 := Lib.hid (S26.out.below hb)
            replace A := Lib.hid (bthen A.out hb)
            clear hb
            generalize World.alloc w14 _ = w15 at *
            have T5s := T5.out.1
            have T5c := T5.out.2
            have T26s := T26.out.1
            have T26c := T26.out.2
            go_wp2_with fail
            clear T5s T5c T26s T26c
            refine (HSQ.out _ _ _ S26.out Sa4.out).mono ?_
            rintro e w16 ⟨rfl, hb⟩
            replace s1 := Lib.hid (s1.out.below hb)
            replace s2 := Lib.hid (s2.out.below hb)
            replace T3 := Lib.hid (T3.out.below hb)
            replace Sa4 := Lib.hid (Sa4.out.below hb)
            replace Sb4 := Lib.hid (Sb4.out.below hb)
            replace Sc4 := Lib.hid (Sc4.out.below hb)
            replace T5 := Lib.hid (T5.out.below hb)
            replace S9 := Lib.hid (S9.out.below hb)
            replace S26 := Lib.hid (S26.out.below hb)
            replace T26 := Lib.hid (T26.out.below hb)
            replace A := Lib.hid (bthen A.out hb)
            clear hb
            go_wp2
            go_ret
            exact ⟨rfl, A.out⟩
      · have NF := Lib.hid (fun W a b c => impl_ForcedSet_ok ns us (.slice A1 ns.length c1) (.slice A2 6 c2) (.slice A9 (enc f).length c9) f W a b c hm HVL.out hok hpl hfl)
        have NQ := Lib.hid (fun W a b c => impl_ForcedSet_ok (QM ns us).1 (QM ns us).2 (.slice Aa4 (qn ns us) ca4) (.slice Ab4 6 cb4) (.slice A9 (enc f).length c9) f W a b c (QM_ok hm) (by rw [HQL.out]; exact HQ.out) hok hpl hfl)
        rw [HQL.out] at NQ
        have HFV := Lib.hid (fv_lt hm f)
        have HFQ := Lib.hid (fv_lt (QM_ok hm) f)
        have HE1 := Lib.hid (fun x hx => q_fv hm f (x := x) hx)
        have HQZ := Lib.hid (fun x (hx : x < ns.length) => show (qcl ns us).getD x 0 < 8 from qcl_lt ns us h8 _ (getD_mem (by rw [qcl_length]; exact hx)))
        have HCU := Lib.hid (fun x W a b hx => impl_CutDown_ok ns us x (.slice A1 ns.length c1) (.slice A2 6 c2) W a b hm HVL.out hx)
        have HCF := Lib.hid (fun x (hx : x < ns.length) v u W a b c => impl_ForcedSet_ok (ptr ns (ns.getD x 0)) (ptv us (ns.getD x 0)) v u (.slice A9 (enc f).length c9) f W a b c (cone_vl hm HPP.out HUI.out (getD_lt hm.r.2 x)).1 (cone_vl hm HPP.out HUI.out (getD_lt hm.r.2 x)).2 hok hpl hfl)
        have HFull := Lib.hid (fun x (hx : x < ns.length) => cone_full hm HPP.out HUI.out f hpl hx)
        have HPR := Lib.hid (fun x => (ptr_rel ns (ns.getD x 0) hm.r (getD_lt hm.r.2 x)).1)
        have HPL := Lib.hid (fun x => li_length (ptr ns (ns.getD x 0)))
        have HVLn := Lib.hid (fun x => show (li (ptv us (ns.getD x 0))).length = 6 by rw [li_length, ptv_length, hm.l])
        clear hm hok hpl hfl
        have T3s := T3.out.1
        have T3c := T3.out.2
        go_wp2_with fail
        clear T3s T3c
        refine (NF.out _ s1.out s2.out S9.out).mono ?_
        rintro e w12 ⟨rfl, hb⟩
        replace s1 := Lib.hid (s1.out.below hb)
        replace s2 := Lib.hid (s2.out.below hb)
        replace T3 := Lib.hid (T3.out.below hb)
        replace Sa4 := Lib.hid (Sa4.out.below hb)
        replace Sb4 := Lib.hid (Sb4.out.below hb)
        replace Sc4 := Lib.hid (Sc4.out.below hb)
        replace T5 := Lib.hid (T5.out.below hb)
        replace S9 := Lib.hid (S9.out.below hb)
        replace A := Lib.hid (bthen A.out hb)
        clear hb
        have T5s := T5.out.1
        have T5c := T5.out.2
        go_wp2_with fail
        clear T5s T5c
        refine (NQ.out _ Sa4.out Sb4.out S9.out).mono ?_
        rintro e w13 ⟨rfl, hb⟩
        replace s1 := Lib.hid (s1.out.below hb)
        replace s2 := Lib.hid (s2.out.below hb)
        replace T3 := Lib.hid (T3.out.below hb)
        replace Sa4 := Lib.hid (Sa4.out.below hb)
        replace Sb4 := Lib.hid (Sb4.out.below hb)
        replace Sc4 := Lib.hid (Sc4.out.below hb)
        replace T5 := Lib.hid (T5.out.below hb)
        replace S9 := Lib.hid (S9.out.below hb)
        replace A := Lib.hid (bthen A.out hb)
        clear hb
        clear NF NQ
        obtain ⟨M1, hM1⟩ : ∃ M1, fv ns us f = M1 := ⟨_, rfl⟩
        obtain ⟨M2, hM2⟩ : ∃ M2, fv (QM ns us).1 (QM ns us).2 f = M2 := ⟨_, rfl⟩
        rw [hM1] at HFV HE1 HFull ⊢
        rw [hM2] at HFQ HE1 ⊢
        clear hM1 hM2
        go_upto_region 15 with fail
        have t3s := T3.out.1
        have t3c := T3.out.2
        go_wp2
        clear t3s t3c
        go_loopw [20] (fun i wr => ∃ x : Nat, x ≤ ns.length ∧ i = .int .i64 (x : Int) ∧ Below w13.heap.size w13 wr) (fun i _ => ns.length - (intOf i).toNat)
        case atStart => exact ⟨0, Nat.zero_le _, rfl, Below.refl _ _⟩
        case round =>
          obtain ⟨x, hx, rfl, hbl⟩ := hrel
          obtain ⟨wL, hwL⟩ : ∃ W, W = wr := ⟨_, rfl⟩
          subst hwL
          have HBL := Lib.hid hbl
          replace s1 := Lib.hid (s1.out.below hbl)
          replace s2 := Lib.hid (s2.out.below hbl)
          replace T3 := Lib.hid (T3.out.below hbl)
          replace Sa4 := Lib.hid (Sa4.out.below hbl)
          replace Sb4 := Lib.hid (Sb4.out.below hbl)
          replace Sc4 := Lib.hid (Sc4.out.below hbl)
          replace T5 := Lib.hid (T5.out.below hbl)
          replace S9 := Lib.hid (S9.out.below hbl)
          replace A := Lib.hid (bthen A.out hbl)
          clear hbl
          have t3s := T3.out.1
          have t3c := T3.out.2
          by_cases hlt : x < ns.length
          · have i0 : (x : Int) < (ns.length : Int) := by omega
            obtain ⟨b, o, rfl, hb, ca⟩ := Sc4.out.atI (k := x) (by rw [HLz.out]; exact hlt)
            rw [li_get] at ca
            have hz := HQZ.out x hlt
            have e1 := HE1.out x hlt
            have hv1 := HFV.out
            have hv2 := HFQ.out
            have hfull := HFull.out x hlt
            have HPLx := Lib.hid (HPL.out x)
            have HVx := Lib.hid (HVLn.out x)
            have hpr := HPR.out x
            have HCUx := Lib.hid (fun W a b => HCU.out x W a b hlt)
            have HCFx := Lib.hid (HCF.out x hlt)
            generalize (qcl ns us).getD x 0 = z at *
            generalize ptr ns (ns.getD x 0) = P at *
            generalize ptv us (ns.getD x 0) = V at *
            obtain ⟨M3, hM3⟩ : ∃ M3, fv P V f = M3 := ⟨_, rfl⟩
            rw [hM3] at hfull HCFx
            clear hM3
            obtain ⟨y, hy⟩ : ∃ y, M2.testBit z = y := ⟨_, rfl⟩
            rw [hy] at e1
            obtain ⟨F9, hF9⟩ : ∃ F9, F9 = 2 ^ P.length - 1 := ⟨_, rfl⟩
            rw [← hF9, e1] at hfull
            have HF9 := Lib.hid (fun W => laws_full9 P.length F9 hF9 W hpr)
            have Q1 := Lib.hid (fun W => q_bit9 e1 hv1 (show x < 62 by omega) W)
            have Q2 := Lib.hid (fun W => q_bit9 hy hv2 (show z < 62 by omega) W)
            have B1 := Lib.hid (fun W => e1 ▸ laws_bit9 M1 x W (by omega) (by omega))
            have HEQ : Hid ((((M3 : Nat) : Int) == (F9 : Int)) = y) := Lib.hid (by
              rw [eqI]
              cases y
              · exact decide_eq_false (fun e => Bool.false_ne_true (hfull.1 e))
              · exact decide_eq_true (hfull.2 rfl))
            clear e1 hy hz hv1 hv2 hfull hF9
            go_wp2
            go_quiet ((go_at_call 12; first | with_reducible exact Q1.out _ _ | with_reducible exact Q2.out _ _))
            clear Q1 Q2 ca t3s t3c
            have hbq := below_drewN (Below.refl wL.heap.size wL) nq
            replace s1 := Lib.hid (s1.out.below hbq)
            replace s2 := Lib.hid (s2.out.below hbq)
            replace T3 := Lib.hid (T3.out.below hbq)
            replace Sa4 := Lib.hid (Sa4.out.below hbq)
            replace Sb4 := Lib.hid (Sb4.out.below hbq)
            replace Sc4 := Lib.hid (Sc4.out.below hbq)
            replace T5 := Lib.hid (T5.out.below hbq)
            replace S9 := Lib.hid (S9.out.below hbq)
            replace A := Lib.hid (bthen A.out hbq)
            replace HBL := Lib.hid (bthen HBL.out hbq)
            clear hbq
            generalize World.drewN wL nq = wM at *
            have T3s := T3.out.1
            have T3c := T3.out.2
            go_wp2_with fail
            clear T3s T3c
            refine (HCUx.out _ s1.out s2.out).mono ?_
            rintro e w14 ⟨B1_, d1_, B2_, d2_, rfl, SA, SB, hb⟩
            replace s1 := Lib.hid (s1.out.below hb)
            replace s2 := Lib.hid (s2.out.below hb)
            replace T3 := Lib.hid (T3.out.below hb)
            replace Sa4 := Lib.hid (Sa4.out.below hb)
            replace Sb4 := Lib.hid (Sb4.out.below hb)
            replace Sc4 := Lib.hid (Sc4.out.below hb)
            replace T5 := Lib.hid (T5.out.below hb)
            replace S9 := Lib.hid (S9.out.below hb)
            replace A := Lib.hid (bthen A.out hb)
            replace HBL := Lib.hid (bthen HBL.out hb)
            clear hb
            replace SA := Lib.hid SA
            replace SB := Lib.hid SB
            go_upto_region 21 with fail
            have hb := below_alloc' w14 (.cells #[.int .i64 (P.length : Int), .slice B1_ P.length d1_] 26)
            have T21 := Lib.hid (Bk.new w14 #[.int .i64 (P.length : Int), .slice B1_ P.length d1_] 26)
            replace s1 := Lib.hid (s1.out.below hb)
            replace s2 := Lib.hid (s2.out.below hb)
            replace T3 := Lib.hid (T3.out.below hb)
            replace Sa4 := Lib.hid (Sa4.out.below hb)
            replace Sb4 := Lib.hid (Sb4.out.below hb)
            replace Sc4 := Lib.hid (Sc4.out.below hb)
            replace T5 := Lib.hid (T5.out.below hb)
            replace S9 := Lib.hid (S9.out.below hb)
            replace SA := Lib.hid (SA.out.below hb)
            replace SB := Lib.hid (SB.out.below hb)
            replace A := Lib.hid (bthen A.out hb)
            replace HBL := Lib.hid (bthen HBL.out hb)
            clear hb
            generalize World.alloc w14 _ = w15 at *
            have T21s := T21.out.1
            have T21c := T21.out.2
            go_wp2_with fail
            clear T21s T21c
            refine (HCFx.out _ _ _ SA.out SB.out S9.out).mono ?_
            rintro e w16 ⟨rfl, hb⟩
            replace s1 := Lib.hid (s1.out.below hb)
            replace s2 := Lib.hid (s2.out.below hb)
            replace T3 := Lib.hid (T3.out.below hb)
            replace Sa4 := Lib.hid (Sa4.out.below hb)
            replace Sb4 := Lib.hid (Sb4.out.below hb)
            replace Sc4 := Lib.hid (Sc4.out.below hb)
            replace T5 := Lib.hid (T5.out.below hb)
            replace S9 := Lib.hid (S9.out.below hb)
            replace SA := Lib.hid (SA.out.below hb)
            replace SB := Lib.hid (SB.out.below hb)
            replace T21 := Lib.hid (T21.out.below hb)
            replace A := Lib.hid (bthen A.out hb)
            replace HBL := Lib.hid (bthen HBL.out hb)
            clear hb
            have t21s := T21.out.1
            have t21c := T21.out.2
            go_wp2_with fail
            clear t21s t21c
            refine (HF9.out _).mono ?_
            rintro e _ ⟨rfl, rfl⟩
            go_wp2_with fail
            refine (B1.out _).mono ?_
            rintro e _ ⟨rfl, rfl⟩
            rw [HEQ.out]
            cases y
            all_goals
              go_wp2
              exact ⟨⟨x + 1, by omega, by go_num, HBL.out⟩, by simp [intOf]; omega⟩
          · obtain rfl : x = ns.length := by omega
            clear HBL
            have T5s := T5.out.1
            have T5c := T5.out.2
            go_wp2_with fail
            clear T5s T5c
            refine (HAG.out _ _ _ Sa4.out Sb4.out).mono ?_
            rintro e w14 ⟨a26, b26, c26, rfl, S26, hb⟩
            replace s1 := Lib.hid (s1.out.below hb)
            replace s2 := Lib.hid (s2.out.below hb)
            replace T3 := Lib.hid (T3.out.below hb)
            replace Sa4 := Lib.hid (Sa4.out.below hb)
            replace Sb4 := Lib.hid (Sb4.out.below hb)
            replace Sc4 := Lib.hid (Sc4.out.below hb)
            replace T5 := Lib.hid (T5.out.below hb)
            replace S9 := Lib.hid (S9.out.below hb)
            replace A := Lib.hid (bthen A.out hb)
            clear hb
            replace S26 := Lib.hid S26
            obtain ⟨A26, c26_, rfl⟩ := S26.out.opn
            rw [HLx.out] at S26 ⊢
            go_upto_region 25 with fail
            have hb := below_alloc' w14 (.cells #[.int .i64 (qn ns us : Nat), .slice A26 (qn ns us) c26_] 26)
            have T26 := Lib.hid (Bk.new w14 #[.int .i64 (qn ns us : Nat), .slice A26 (qn ns us) c26_] 26)
            replace s1 := Lib.hid (s1.out.below hb)
            replace s2 := Lib.hid (s2.out.below hb)
            replace T3 := Lib.hid (T3.out.below hb)
            replace Sa4 := Lib.hid (Sa4.out.below hb)
            replace Sb4 := Lib.hid (Sb4.out.below hb)
            replace Sc4 := Lib.hid (Sc4.out.below hb)
            replace T5 := Lib.hid (T5.out.below hb)
            replace S9 := Lib.hid (S9.out.below hb)
            replace S26 := Lib.hid (S26.out.below hb)
            replace A := Lib.hid (bthen A.out hb)
            clear hb
            generalize World.alloc w14 _ = w15 at *
            have T5s := T5.out.1
            have T5c := T5.out.2
            have T26s := T26.out.1
            have T26c := T26.out.2
            go_wp2_with fail
            clear T5s T5c T26s T26c
            refine (HSQ.out _ _ _ S26.out Sa4.out).mono ?_
            rintro e w16 ⟨rfl, hb⟩
            replace s1 := Lib.hid (s1.out.below hb)
            replace s2 := Lib.hid (s2.out.below hb)
            replace T3 := Lib.hid (T3.out.below hb)
            replace Sa4 := Lib.hid (Sa4.out.below hb)
            replace Sb4 := Lib.hid (Sb4.out.below hb)
            replace Sc4 := Lib.hid (Sc4.out.below hb)
            replace T5 := Lib.hid (T5.out.below hb)
            replace S9 := Lib.hid (S9.out.below hb)
            replace S26 := Lib.hid (S26.out.below hb)
            replace T26 := Lib.hid (T26.out.below hb)
            replace A := Lib.hid (bthen A.out hb)
            clear hb
            go_wp2
            go_ret
            exact ⟨rfl, A.out⟩
end Go.Proofs.YtomojninngdbeaaGreat

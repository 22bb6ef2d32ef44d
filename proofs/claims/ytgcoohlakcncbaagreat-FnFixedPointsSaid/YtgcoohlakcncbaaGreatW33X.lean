/- The walk of FnFixedPoints, written by program (gen33W.py). -/
import Derived.Test.YtgcoohlakcncbaaGreat33O
import Derived.Test.YtgcoohlakcncbaaGreatLK
import Derived.Test.YtgcoohlakcncbaaGreatJH
namespace Go.Proofs.YtgcoohlakcncbaaGreat
open Go.RowKit
set_option linter.unusedVariables false
set_option linter.unusedSimpArgs false
theorem mems_len (m : Nat) : (mems m).length ≤ 64 := by
  unfold mems memsTo
  rw [List.length_map]
  have := List.length_filter_le m.testBit (List.range 64)
  rwa [List.length_range] at this
theorem lcode_two' {xs ys : List Nd} (h : lcode [xs] = 0) (h' : lcode [ys] = 0) : lcode [xs, ys] = 0 := by
  unfold lcode at h h' ⊢
  simp only [List.all_cons, List.all_nil, Bool.and_true] at h h' ⊢
  cases e1 : isF xs <;> cases e2 : letterless xs <;> cases e3 : isF ys <;> cases e4 : letterless ys <;> simp_all
set_option maxHeartbeats 4000000 in
set_option maxRecDepth 100000 in
theorem final_FixedPoints (v : Value) (xs : List (Fin 256)) (w : World) (h : Sl cY w v xs) :
    Calls Tryz.prog 5 #[v] w fun e w' => e = .returned (.bool true) ∧ Below w.heap.size w w' := by
  have A : Hid (Below w.heap.size w w) := Lib.hid (Below.refl _ _)
  go_enter Tryz.func5, Tryz.ntmps5
  replace h := Lib.hid h
  by_cases hbig : 4096 < xs.length
  · have HC := Lib.hid (decide_eq_true hbig ▸ laws_big v xs w h.out)
    clear hbig
    go_wp2_with fail
    refine HC.out.mono ?_
    rintro e w1 ⟨rfl, rfl⟩
    go_wp2
    go_ret
    exact ⟨rfl, A.out⟩
  · have HC := Lib.hid (decide_eq_false hbig ▸ laws_big v xs w h.out)
    have HD := Lib.hid (fun W hW => spec_DrawFixedPointOf v xs W hW (by omega))
    have HD2 := Lib.hid (fun W hW => spec_DrawLetterlessFixedPoint v xs W hW (by omega))
    clear hbig
    go_wp2_with fail
    refine HC.out.mono ?_
    rintro e w1 ⟨rfl, rfl⟩
    clear HC
    go_wp2_with fail
    refine (HD.out _ h.out).mono ?_
    rintro e w1 ⟨u1, L, x, rfl, hL, s1, hb⟩
    replace h := Lib.hid (h.out.below hb)
    replace A := Lib.hid (bthen A.out hb)
    clear hb
    obtain ⟨A1, c1, rfl⟩ := s1.opn
    have S1 := Lib.hid s1
    clear s1 HD
    obtain ⟨R, k, hR, hI, hS, hK⟩ := fp_both L x (by omega)
    have HI := Lib.hid hI
    have HS := Lib.hid hS
    have HK := Lib.hid hK
    clear hI hS hK
    have HLF := Lib.hid (fun v u W a b => laws_likeFormula5 v u R W a b (by omega))
    go_wp2_with fail
    refine (HI.out _ _ S1.out).mono ?_
    rintro e w2 ⟨A2, c2, rfl, s2, hb⟩
    replace h := Lib.hid (h.out.below hb)
    replace S1 := Lib.hid (S1.out.below hb)
    replace A := Lib.hid (bthen A.out hb)
    clear hb
    have S2 := Lib.hid s2
    clear s2
    go_wp2_with fail
    refine (HS.out _ _ S1.out).mono ?_
    rintro e w3 ⟨A3, c3, rfl, s3, hb⟩
    replace h := Lib.hid (h.out.below hb)
    replace S1 := Lib.hid (S1.out.below hb)
    replace S2 := Lib.hid (S2.out.below hb)
    replace A := Lib.hid (bthen A.out hb)
    clear hb
    have S3 := Lib.hid s3
    clear s3
    go_wp2_with fail
    refine (HLF.out _ _ _ S2.out S3.out).mono ?_
    rintro e w4 ⟨rfl, hb⟩
    replace h := Lib.hid (h.out.below hb)
    replace S1 := Lib.hid (S1.out.below hb)
    replace S2 := Lib.hid (S2.out.below hb)
    replace S3 := Lib.hid (S3.out.below hb)
    replace A := Lib.hid (bthen A.out hb)
    clear hb
    clear HI HS HLF S2
    cases hk : (k == 0)
    · clear HK S1 S3 hR hL
      go_wp2_with fail
      refine (HD2.out _ h.out).mono ?_
      rintro e w5 ⟨u5, L2, x2, rfl, hL2, s5, hb⟩
      replace h := Lib.hid (h.out.below hb)
      replace A := Lib.hid (bthen A.out hb)
      clear hb
      obtain ⟨A5, c5, rfl⟩ := s5.opn
      have S5 := Lib.hid s5
      clear s5 HD2
      obtain ⟨R2, k2, b, T, kt, hR2, hTL, hI2, hS2, hT1, hT2, hK2⟩ := lf_both L2 x2 (by omega)
      have HI2 := Lib.hid hI2
      have HS2 := Lib.hid hS2
      have HT1 := Lib.hid hT1
      have HT2 := Lib.hid hT2
      have HK2 := Lib.hid hK2
      clear hI2 hS2 hT1 hT2 hK2
      have HLF2 := Lib.hid (fun v u W a b => laws_likeFormula5 v u R2 W a b (by omega))
      have HLT := Lib.hid (fun v u W a c => laws_likeTrace5 b v u T W a c (by omega))
      go_wp2_with fail
      refine (HI2.out _ _ S5.out).mono ?_
      rintro e w6 ⟨A6, c6, rfl, s6, hb⟩
      replace S5 := Lib.hid (S5.out.below hb)
      replace A := Lib.hid (bthen A.out hb)
      clear hb
      have S6 := Lib.hid s6
      clear s6
      go_wp2_with fail
      refine (HS2.out _ _ S5.out).mono ?_
      rintro e w7 ⟨A7, c7, rfl, s7, hb⟩
      replace S5 := Lib.hid (S5.out.below hb)
      replace S6 := Lib.hid (S6.out.below hb)
      replace A := Lib.hid (bthen A.out hb)
      clear hb
      have S7 := Lib.hid s7
      clear s7
      go_wp2_with fail
      refine (HT1.out _ _ S5.out).mono ?_
      rintro e w8 ⟨A8, c8, rfl, s8, hb⟩
      replace S5 := Lib.hid (S5.out.below hb)
      replace S6 := Lib.hid (S6.out.below hb)
      replace S7 := Lib.hid (S7.out.below hb)
      replace A := Lib.hid (bthen A.out hb)
      clear hb
      have S8 := Lib.hid s8
      clear s8
      go_upto_region 17 with fail
      have hb := below_alloc' w8 (.cells #[.bool b, .slice A8 T.length c8] 55)
      have T8 := Lib.hid (Bk.new w8 #[.bool b, .slice A8 T.length c8] 55)
      replace S5 := Lib.hid (S5.out.below hb)
      replace S6 := Lib.hid (S6.out.below hb)
      replace S7 := Lib.hid (S7.out.below hb)
      replace S8 := Lib.hid (S8.out.below hb)
      replace A := Lib.hid (bthen A.out hb)
      clear hb
      generalize World.alloc w8 _ = w9 at *
      have T8s := T8.out.1
      have T8c := T8.out.2
      go_wp2_with fail
      clear T8s T8c
      refine (HT2.out _ _ S5.out).mono ?_
      rintro e w10 ⟨A9, c9, rfl, s9, hb⟩
      replace S5 := Lib.hid (S5.out.below hb)
      replace S6 := Lib.hid (S6.out.below hb)
      replace S7 := Lib.hid (S7.out.below hb)
      replace S8 := Lib.hid (S8.out.below hb)
      replace T8 := Lib.hid (T8.out.below hb)
      replace A := Lib.hid (bthen A.out hb)
      clear hb
      have S9 := Lib.hid s9
      clear s9
      have T8s := T8.out.1
      have T8c := T8.out.2
      go_upto_region 18 with fail
      clear T8s T8c
      have hb := below_alloc' w10 (.cells #[.bool b, .slice A9 T.length c9] 55)
      have T9 := Lib.hid (Bk.new w10 #[.bool b, .slice A9 T.length c9] 55)
      replace S5 := Lib.hid (S5.out.below hb)
      replace S6 := Lib.hid (S6.out.below hb)
      replace S7 := Lib.hid (S7.out.below hb)
      replace S8 := Lib.hid (S8.out.below hb)
      replace T8 := Lib.hid (T8.out.below hb)
      replace S9 := Lib.hid (S9.out.below hb)
      replace A := Lib.hid (bthen A.out hb)
      clear hb
      generalize World.alloc w10 _ = w11 at *
      have T8s := T8.out.1
      have T8c := T8.out.2
      have T9s := T9.out.1
      have T9c := T9.out.2
      go_wp2_with fail
      clear T8s T8c T9s T9c
      refine (HLF2.out _ _ _ S6.out S7.out).mono ?_
      rintro e w12 ⟨rfl, hb⟩
      replace S5 := Lib.hid (S5.out.below hb)
      replace S6 := Lib.hid (S6.out.below hb)
      replace S7 := Lib.hid (S7.out.below hb)
      replace S8 := Lib.hid (S8.out.below hb)
      replace T8 := Lib.hid (T8.out.below hb)
      replace S9 := Lib.hid (S9.out.below hb)
      replace T9 := Lib.hid (T9.out.below hb)
      replace A := Lib.hid (bthen A.out hb)
      clear hb
      have T8s := T8.out.1
      have T8c := T8.out.2
      have T9s := T9.out.1
      have T9c := T9.out.2
      go_wp2_with fail
      clear T8s T8c T9s T9c
      refine (HLT.out _ _ _ S8.out S9.out).mono ?_
      rintro e w13 ⟨rfl, hb⟩
      replace S5 := Lib.hid (S5.out.below hb)
      replace S6 := Lib.hid (S6.out.below hb)
      replace S7 := Lib.hid (S7.out.below hb)
      replace S8 := Lib.hid (S8.out.below hb)
      replace T8 := Lib.hid (T8.out.below hb)
      replace S9 := Lib.hid (S9.out.below hb)
      replace T9 := Lib.hid (T9.out.below hb)
      replace A := Lib.hid (bthen A.out hb)
      clear hb
      clear HI2 HS2 HT1 HT2 HLF2 S6 S8 T8
      cases hk2 : (k2 == 0)
      · clear HK2
        go_wp2
        go_ret
        exact ⟨rfl, A.out⟩
      · obtain rfl : k2 = 0 := by simpa using hk2
        clear hk2
        obtain ⟨f2, n2, hok2, rfl, hl2, rfl, hn2, hg2, ho2, hb2, hT, rfl⟩ := HK2.out rfl
        obtain ⟨hnv, e1, e2, ⟨y2, cd2, eif, hcs2⟩, hal⟩ := ltl_pack hok2 hg2 ho2 hb2 hT hR2
        obtain ⟨R3, k3, hR3, hI3, hS3, hK3⟩ := fp_at hok2 hl2 hn2 hg2
        have hlk := novar_ok _ hnv
        have hlc := lcode_novar _ hnv hR2
        have HTO : Hid (∀ v W, Sl cN W v (enc (oF b T)) → Calls Tryz.prog 38 #[v] W fun e w' => ∃ A c, e = .returned (.tuple #[.agg #[.bool b, .slice A T.length c], .int .i64 0]) ∧ Sl cI w' (.slice A T.length c) T ∧ Below W.heap.size W w') := Lib.hid fun v W a => (impl_TraceOf_ok v _ W a hR2 hlc).mono fun e w' ⟨u, he, ho, hb⟩ => by rw [e1] at he; rw [e2] at ho; obtain ⟨A, c, rfl⟩ := ho.opn; exact ⟨A, c, he, ho.sl, hb⟩
        have HIF := Lib.hid (fun v u W a c => eif ▸ impl_IsFixedPoint_good f2 (oF b T) v u n2 W a c hl2 hR2 hok2 hlk hn2)
        have HAE : Hid (∀ d : Fm, fpB f2 n2 = some d → (enc d).length ≤ 40 → ∀ v u W, Sl cN W v (enc d) → Sl cN W u (enc (oF b T)) → Calls Tryz.prog 39 #[v, u] W fun e w' => e = .returned (.tuple #[.bool true, .int .i64 0]) ∧ Below W.heap.size W w') := Lib.hid fun d hd dl v u W a c => by obtain ⟨dn, da⟩ := hal d hd; have t := impl_AreLetterlessEqual_ok v u d (oF b T) W a c dl hR2 (lcode_two' (lcode_novar d dn dl) hlc); rw [da] at t; exact t
        have HI3 := Lib.hid hI3
        have HS3 := Lib.hid hS3
        have HK3 := Lib.hid hK3
        have HLF3 := Lib.hid (fun v u W a c => laws_likeFormula5 v u R3 W a c (by omega))
        have HR3 := Lib.hid hR3
        clear hI3 hS3 hK3 hnv e1 e2 eif hal hlk hlc hok2 hl2 hn2 hg2 ho2 hb2 hT hR2 hR3 HK2 hTL hL2
        generalize oF b T = l at *
        have T9s := T9.out.1
        have T9c := T9.out.2
        go_wp2_with fail
        clear T9s T9c
        refine (HTO.out _ _ S7.out).mono ?_
        rintro e w14 ⟨A10, c10, rfl, s10, hb⟩
        replace S5 := Lib.hid (S5.out.below hb)
        replace S7 := Lib.hid (S7.out.below hb)
        replace S9 := Lib.hid (S9.out.below hb)
        replace T9 := Lib.hid (T9.out.below hb)
        replace A := Lib.hid (bthen A.out hb)
        clear hb
        have S10 := Lib.hid s10
        clear s10
        have T9s := T9.out.1
        have T9c := T9.out.2
        go_upto_region 23 with fail
        clear T9s T9c
        have hb := below_alloc' w14 (.cells #[.bool b, .slice A10 T.length c10] 55)
        have T10 := Lib.hid (Bk.new w14 #[.bool b, .slice A10 T.length c10] 55)
        replace S5 := Lib.hid (S5.out.below hb)
        replace S7 := Lib.hid (S7.out.below hb)
        replace S9 := Lib.hid (S9.out.below hb)
        replace T9 := Lib.hid (T9.out.below hb)
        replace S10 := Lib.hid (S10.out.below hb)
        replace A := Lib.hid (bthen A.out hb)
        clear hb
        generalize World.alloc w14 _ = w15 at *
        have T9s := T9.out.1
        have T9c := T9.out.2
        have T10s := T10.out.1
        have T10c := T10.out.2
        go_wp2_with fail
        clear T9s T9c T10s T10c
        refine (HLT.out _ _ _ S10.out S9.out).mono ?_
        rintro e w16 ⟨rfl, hb⟩
        replace S5 := Lib.hid (S5.out.below hb)
        replace S7 := Lib.hid (S7.out.below hb)
        replace S9 := Lib.hid (S9.out.below hb)
        replace T9 := Lib.hid (T9.out.below hb)
        replace S10 := Lib.hid (S10.out.below hb)
        replace T10 := Lib.hid (T10.out.below hb)
        replace A := Lib.hid (bthen A.out hb)
        clear hb
        clear HTO HLT S9 S10 T9 T10
        go_wp2_with fail
        refine (HIF.out _ _ _ S5.out S7.out).mono ?_
        rintro e w17 ⟨rfl, hb⟩
        replace S5 := Lib.hid (S5.out.below hb)
        replace S7 := Lib.hid (S7.out.below hb)
        replace A := Lib.hid (bthen A.out hb)
        clear hb
        clear HIF
        rcases hcs2 with ⟨rfl, rfl⟩ | rfl
        · skip
          go_wp2_with fail
          refine (HI3.out _ _ S5.out).mono ?_
          rintro e w18 ⟨A11, c11, rfl, s11, hb⟩
          replace S5 := Lib.hid (S5.out.below hb)
          replace S7 := Lib.hid (S7.out.below hb)
          replace A := Lib.hid (bthen A.out hb)
          clear hb
          have S11 := Lib.hid s11
          clear s11
          go_wp2_with fail
          refine (HS3.out _ _ S5.out).mono ?_
          rintro e w19 ⟨A12, c12, rfl, s12, hb⟩
          replace S5 := Lib.hid (S5.out.below hb)
          replace S7 := Lib.hid (S7.out.below hb)
          replace S11 := Lib.hid (S11.out.below hb)
          replace A := Lib.hid (bthen A.out hb)
          clear hb
          have S12 := Lib.hid s12
          clear s12
          go_wp2_with fail
          refine (HLF3.out _ _ _ S11.out S12.out).mono ?_
          rintro e w20 ⟨rfl, hb⟩
          replace S5 := Lib.hid (S5.out.below hb)
          replace S7 := Lib.hid (S7.out.below hb)
          replace S11 := Lib.hid (S11.out.below hb)
          replace S12 := Lib.hid (S12.out.below hb)
          replace A := Lib.hid (bthen A.out hb)
          clear hb
          clear HI3 HS3 HLF3 S11
          rcases HK3.out with ⟨rfl, rfl⟩ | ⟨rfl, d3, hd3, hdok3, rfl⟩
          · clear HK3
            go_wp2
            go_ret
            exact ⟨rfl, A.out⟩
          · have HAD := Lib.hid (HAE.out d3 hd3 HR3.out)
            clear HK3 HAE hd3 hdok3
            go_wp2_with fail
            refine (HAD.out _ _ _ S12.out S7.out).mono ?_
            rintro e w21 ⟨rfl, hb⟩
            replace S5 := Lib.hid (S5.out.below hb)
            replace S7 := Lib.hid (S7.out.below hb)
            replace S12 := Lib.hid (S12.out.below hb)
            replace A := Lib.hid (bthen A.out hb)
            clear hb
            go_wp2
            go_ret
            exact ⟨rfl, A.out⟩
        · skip
          go_wp2_with fail
          refine (HI3.out _ _ S5.out).mono ?_
          rintro e w18 ⟨A11, c11, rfl, s11, hb⟩
          replace S5 := Lib.hid (S5.out.below hb)
          replace S7 := Lib.hid (S7.out.below hb)
          replace A := Lib.hid (bthen A.out hb)
          clear hb
          have S11 := Lib.hid s11
          clear s11
          go_wp2_with fail
          refine (HS3.out _ _ S5.out).mono ?_
          rintro e w19 ⟨A12, c12, rfl, s12, hb⟩
          replace S5 := Lib.hid (S5.out.below hb)
          replace S7 := Lib.hid (S7.out.below hb)
          replace S11 := Lib.hid (S11.out.below hb)
          replace A := Lib.hid (bthen A.out hb)
          clear hb
          have S12 := Lib.hid s12
          clear s12
          go_wp2_with fail
          refine (HLF3.out _ _ _ S11.out S12.out).mono ?_
          rintro e w20 ⟨rfl, hb⟩
          replace S5 := Lib.hid (S5.out.below hb)
          replace S7 := Lib.hid (S7.out.below hb)
          replace S11 := Lib.hid (S11.out.below hb)
          replace S12 := Lib.hid (S12.out.below hb)
          replace A := Lib.hid (bthen A.out hb)
          clear hb
          clear HI3 HS3 HLF3 S11
          rcases HK3.out with ⟨rfl, rfl⟩ | ⟨rfl, d3, hd3, hdok3, rfl⟩
          · clear HK3
            go_wp2
            go_ret
            exact ⟨rfl, A.out⟩
          · have HAD := Lib.hid (HAE.out d3 hd3 HR3.out)
            clear HK3 HAE hd3 hdok3
            go_wp2_with fail
            refine (HAD.out _ _ _ S12.out S7.out).mono ?_
            rintro e w21 ⟨rfl, hb⟩
            replace S5 := Lib.hid (S5.out.below hb)
            replace S7 := Lib.hid (S7.out.below hb)
            replace S12 := Lib.hid (S12.out.below hb)
            replace A := Lib.hid (bthen A.out hb)
            clear hb
            go_wp2
            go_ret
            exact ⟨rfl, A.out⟩
    · obtain rfl : k = 0 := by simpa using hk
      clear hk
      obtain ⟨f, n, d, hok, rfl, hl, rfl, hn, hg, hd, hdok, rfl⟩ := HK.out rfl
      obtain ⟨hvm, y, cd, eif, hcs⟩ := bld_pack hok hdok hg hd
      have HVO := Lib.hid (fun v W a => impl_VariablesOf_ok v d W a hR hdok)
      have HHI : Hid (∀ v W, Sl cI W v (mems (vmask (enc d))) → Calls Tryz.prog 31 #[v, .int .i64 (n : Int)] W fun e w' => e = .returned (.bool false) ∧ W = w') := Lib.hid fun v W a => by have t := laws_hasInt v _ (n : Int) W a (by have := mems_len (vmask (enc d)); omega); rw [decide_eq_false (fun hh => by rw [(mems_in (by omega)).1 hh] at hvm; cases hvm)] at t; exact t
      have HIF := Lib.hid (fun v u W a c => eif ▸ impl_IsFixedPoint_good f d v u n W a c hl hR hok hdok hn)
      clear HK hok hl hn hg hd hdok hvm eif hR hL
      generalize mems (vmask (enc d)) = ms at *
      go_wp2_with fail
      refine (HVO.out _ _ S3.out).mono ?_
      rintro e w5 ⟨A4, c4, rfl, s4, hb⟩
      replace h := Lib.hid (h.out.below hb)
      replace S1 := Lib.hid (S1.out.below hb)
      replace S3 := Lib.hid (S3.out.below hb)
      replace A := Lib.hid (bthen A.out hb)
      clear hb
      have S4 := Lib.hid s4
      clear s4
      go_wp2_with fail
      refine (HIF.out _ _ _ S1.out S3.out).mono ?_
      rintro e w6 ⟨rfl, hb⟩
      replace h := Lib.hid (h.out.below hb)
      replace S1 := Lib.hid (S1.out.below hb)
      replace S3 := Lib.hid (S3.out.below hb)
      replace S4 := Lib.hid (S4.out.below hb)
      replace A := Lib.hid (bthen A.out hb)
      clear hb
      clear HVO HIF S1 S3
      go_wp2_with fail
      refine (HHI.out _ _ S4.out).mono ?_
      rintro e w90 ⟨rfl, rfl⟩
      clear HHI S4
      rcases hcs with ⟨rfl, rfl⟩ | rfl
      · skip
        go_wp2_with fail
        refine (HD2.out _ h.out).mono ?_
        rintro e w7 ⟨u5, L2, x2, rfl, hL2, s5, hb⟩
        replace h := Lib.hid (h.out.below hb)
        replace A := Lib.hid (bthen A.out hb)
        clear hb
        obtain ⟨A5, c5, rfl⟩ := s5.opn
        have S5 := Lib.hid s5
        clear s5 HD2
        obtain ⟨R2, k2, b, T, kt, hR2, hTL, hI2, hS2, hT1, hT2, hK2⟩ := lf_both L2 x2 (by omega)
        have HI2 := Lib.hid hI2
        have HS2 := Lib.hid hS2
        have HT1 := Lib.hid hT1
        have HT2 := Lib.hid hT2
        have HK2 := Lib.hid hK2
        clear hI2 hS2 hT1 hT2 hK2
        have HLF2 := Lib.hid (fun v u W a b => laws_likeFormula5 v u R2 W a b (by omega))
        have HLT := Lib.hid (fun v u W a c => laws_likeTrace5 b v u T W a c (by omega))
        go_wp2_with fail
        refine (HI2.out _ _ S5.out).mono ?_
        rintro e w8 ⟨A6, c6, rfl, s6, hb⟩
        replace S5 := Lib.hid (S5.out.below hb)
        replace A := Lib.hid (bthen A.out hb)
        clear hb
        have S6 := Lib.hid s6
        clear s6
        go_wp2_with fail
        refine (HS2.out _ _ S5.out).mono ?_
        rintro e w9 ⟨A7, c7, rfl, s7, hb⟩
        replace S5 := Lib.hid (S5.out.below hb)
        replace S6 := Lib.hid (S6.out.below hb)
        replace A := Lib.hid (bthen A.out hb)
        clear hb
        have S7 := Lib.hid s7
        clear s7
        go_wp2_with fail
        refine (HT1.out _ _ S5.out).mono ?_
        rintro e w10 ⟨A8, c8, rfl, s8, hb⟩
        replace S5 := Lib.hid (S5.out.below hb)
        replace S6 := Lib.hid (S6.out.below hb)
        replace S7 := Lib.hid (S7.out.below hb)
        replace A := Lib.hid (bthen A.out hb)
        clear hb
        have S8 := Lib.hid s8
        clear s8
        go_upto_region 17 with fail
        have hb := below_alloc' w10 (.cells #[.bool b, .slice A8 T.length c8] 55)
        have T8 := Lib.hid (Bk.new w10 #[.bool b, .slice A8 T.length c8] 55)
        replace S5 := Lib.hid (S5.out.below hb)
        replace S6 := Lib.hid (S6.out.below hb)
        replace S7 := Lib.hid (S7.out.below hb)
        replace S8 := Lib.hid (S8.out.below hb)
        replace A := Lib.hid (bthen A.out hb)
        clear hb
        generalize World.alloc w10 _ = w11 at *
        have T8s := T8.out.1
        have T8c := T8.out.2
        go_wp2_with fail
        clear T8s T8c
        refine (HT2.out _ _ S5.out).mono ?_
        rintro e w12 ⟨A9, c9, rfl, s9, hb⟩
        replace S5 := Lib.hid (S5.out.below hb)
        replace S6 := Lib.hid (S6.out.below hb)
        replace S7 := Lib.hid (S7.out.below hb)
        replace S8 := Lib.hid (S8.out.below hb)
        replace T8 := Lib.hid (T8.out.below hb)
        replace A := Lib.hid (bthen A.out hb)
        clear hb
        have S9 := Lib.hid s9
        clear s9
        have T8s := T8.out.1
        have T8c := T8.out.2
        go_upto_region 18 with fail
        clear T8s T8c
        have hb := below_alloc' w12 (.cells #[.bool b, .slice A9 T.length c9] 55)
        have T9 := Lib.hid (Bk.new w12 #[.bool b, .slice A9 T.length c9] 55)
        replace S5 := Lib.hid (S5.out.below hb)
        replace S6 := Lib.hid (S6.out.below hb)
        replace S7 := Lib.hid (S7.out.below hb)
        replace S8 := Lib.hid (S8.out.below hb)
        replace T8 := Lib.hid (T8.out.below hb)
        replace S9 := Lib.hid (S9.out.below hb)
        replace A := Lib.hid (bthen A.out hb)
        clear hb
        generalize World.alloc w12 _ = w13 at *
        have T8s := T8.out.1
        have T8c := T8.out.2
        have T9s := T9.out.1
        have T9c := T9.out.2
        go_wp2_with fail
        clear T8s T8c T9s T9c
        refine (HLF2.out _ _ _ S6.out S7.out).mono ?_
        rintro e w14 ⟨rfl, hb⟩
        replace S5 := Lib.hid (S5.out.below hb)
        replace S6 := Lib.hid (S6.out.below hb)
        replace S7 := Lib.hid (S7.out.below hb)
        replace S8 := Lib.hid (S8.out.below hb)
        replace T8 := Lib.hid (T8.out.below hb)
        replace S9 := Lib.hid (S9.out.below hb)
        replace T9 := Lib.hid (T9.out.below hb)
        replace A := Lib.hid (bthen A.out hb)
        clear hb
        have T8s := T8.out.1
        have T8c := T8.out.2
        have T9s := T9.out.1
        have T9c := T9.out.2
        go_wp2_with fail
        clear T8s T8c T9s T9c
        refine (HLT.out _ _ _ S8.out S9.out).mono ?_
        rintro e w15 ⟨rfl, hb⟩
        replace S5 := Lib.hid (S5.out.below hb)
        replace S6 := Lib.hid (S6.out.below hb)
        replace S7 := Lib.hid (S7.out.below hb)
        replace S8 := Lib.hid (S8.out.below hb)
        replace T8 := Lib.hid (T8.out.below hb)
        replace S9 := Lib.hid (S9.out.below hb)
        replace T9 := Lib.hid (T9.out.below hb)
        replace A := Lib.hid (bthen A.out hb)
        clear hb
        clear HI2 HS2 HT1 HT2 HLF2 S6 S8 T8
        cases hk2 : (k2 == 0)
        · clear HK2
          go_wp2
          go_ret
          exact ⟨rfl, A.out⟩
        · obtain rfl : k2 = 0 := by simpa using hk2
          clear hk2
          obtain ⟨f2, n2, hok2, rfl, hl2, rfl, hn2, hg2, ho2, hb2, hT, rfl⟩ := HK2.out rfl
          obtain ⟨hnv, e1, e2, ⟨y2, cd2, eif, hcs2⟩, hal⟩ := ltl_pack hok2 hg2 ho2 hb2 hT hR2
          obtain ⟨R3, k3, hR3, hI3, hS3, hK3⟩ := fp_at hok2 hl2 hn2 hg2
          have hlk := novar_ok _ hnv
          have hlc := lcode_novar _ hnv hR2
          have HTO : Hid (∀ v W, Sl cN W v (enc (oF b T)) → Calls Tryz.prog 38 #[v] W fun e w' => ∃ A c, e = .returned (.tuple #[.agg #[.bool b, .slice A T.length c], .int .i64 0]) ∧ Sl cI w' (.slice A T.length c) T ∧ Below W.heap.size W w') := Lib.hid fun v W a => (impl_TraceOf_ok v _ W a hR2 hlc).mono fun e w' ⟨u, he, ho, hb⟩ => by rw [e1] at he; rw [e2] at ho; obtain ⟨A, c, rfl⟩ := ho.opn; exact ⟨A, c, he, ho.sl, hb⟩
          have HIF := Lib.hid (fun v u W a c => eif ▸ impl_IsFixedPoint_good f2 (oF b T) v u n2 W a c hl2 hR2 hok2 hlk hn2)
          have HAE : Hid (∀ d : Fm, fpB f2 n2 = some d → (enc d).length ≤ 40 → ∀ v u W, Sl cN W v (enc d) → Sl cN W u (enc (oF b T)) → Calls Tryz.prog 39 #[v, u] W fun e w' => e = .returned (.tuple #[.bool true, .int .i64 0]) ∧ Below W.heap.size W w') := Lib.hid fun d hd dl v u W a c => by obtain ⟨dn, da⟩ := hal d hd; have t := impl_AreLetterlessEqual_ok v u d (oF b T) W a c dl hR2 (lcode_two' (lcode_novar d dn dl) hlc); rw [da] at t; exact t
          have HI3 := Lib.hid hI3
          have HS3 := Lib.hid hS3
          have HK3 := Lib.hid hK3
          have HLF3 := Lib.hid (fun v u W a c => laws_likeFormula5 v u R3 W a c (by omega))
          have HR3 := Lib.hid hR3
          clear hI3 hS3 hK3 hnv e1 e2 eif hal hlk hlc hok2 hl2 hn2 hg2 ho2 hb2 hT hR2 hR3 HK2 hTL hL2
          generalize oF b T = l at *
          have T9s := T9.out.1
          have T9c := T9.out.2
          go_wp2_with fail
          clear T9s T9c
          refine (HTO.out _ _ S7.out).mono ?_
          rintro e w16 ⟨A10, c10, rfl, s10, hb⟩
          replace S5 := Lib.hid (S5.out.below hb)
          replace S7 := Lib.hid (S7.out.below hb)
          replace S9 := Lib.hid (S9.out.below hb)
          replace T9 := Lib.hid (T9.out.below hb)
          replace A := Lib.hid (bthen A.out hb)
          clear hb
          have S10 := Lib.hid s10
          clear s10
          have T9s := T9.out.1
          have T9c := T9.out.2
          go_upto_region 23 with fail
          clear T9s T9c
          have hb := below_alloc' w16 (.cells #[.bool b, .slice A10 T.length c10] 55)
          have T10 := Lib.hid (Bk.new w16 #[.bool b, .slice A10 T.length c10] 55)
          replace S5 := Lib.hid (S5.out.below hb)
          replace S7 := Lib.hid (S7.out.below hb)
          replace S9 := Lib.hid (S9.out.below hb)
          replace T9 := Lib.hid (T9.out.below hb)
          replace S10 := Lib.hid (S10.out.below hb)
          replace A := Lib.hid (bthen A.out hb)
          clear hb
          generalize World.alloc w16 _ = w17 at *
          have T9s := T9.out.1
          have T9c := T9.out.2
          have T10s := T10.out.1
          have T10c := T10.out.2
          go_wp2_with fail
          clear T9s T9c T10s T10c
          refine (HLT.out _ _ _ S10.out S9.out).mono ?_
          rintro e w18 ⟨rfl, hb⟩
          replace S5 := Lib.hid (S5.out.below hb)
          replace S7 := Lib.hid (S7.out.below hb)
          replace S9 := Lib.hid (S9.out.below hb)
          replace T9 := Lib.hid (T9.out.below hb)
          replace S10 := Lib.hid (S10.out.below hb)
          replace T10 := Lib.hid (T10.out.below hb)
          replace A := Lib.hid (bthen A.out hb)
          clear hb
          clear HTO HLT S9 S10 T9 T10
          go_wp2_with fail
          refine (HIF.out _ _ _ S5.out S7.out).mono ?_
          rintro e w19 ⟨rfl, hb⟩
          replace S5 := Lib.hid (S5.out.below hb)
          replace S7 := Lib.hid (S7.out.below hb)
          replace A := Lib.hid (bthen A.out hb)
          clear hb
          clear HIF
          rcases hcs2 with ⟨rfl, rfl⟩ | rfl
          · skip
            go_wp2_with fail
            refine (HI3.out _ _ S5.out).mono ?_
            rintro e w20 ⟨A11, c11, rfl, s11, hb⟩
            replace S5 := Lib.hid (S5.out.below hb)
            replace S7 := Lib.hid (S7.out.below hb)
            replace A := Lib.hid (bthen A.out hb)
            clear hb
            have S11 := Lib.hid s11
            clear s11
            go_wp2_with fail
            refine (HS3.out _ _ S5.out).mono ?_
            rintro e w21 ⟨A12, c12, rfl, s12, hb⟩
            replace S5 := Lib.hid (S5.out.below hb)
            replace S7 := Lib.hid (S7.out.below hb)
            replace S11 := Lib.hid (S11.out.below hb)
            replace A := Lib.hid (bthen A.out hb)
            clear hb
            have S12 := Lib.hid s12
            clear s12
            go_wp2_with fail
            refine (HLF3.out _ _ _ S11.out S12.out).mono ?_
            rintro e w22 ⟨rfl, hb⟩
            replace S5 := Lib.hid (S5.out.below hb)
            replace S7 := Lib.hid (S7.out.below hb)
            replace S11 := Lib.hid (S11.out.below hb)
            replace S12 := Lib.hid (S12.out.below hb)
            replace A := Lib.hid (bthen A.out hb)
            clear hb
            clear HI3 HS3 HLF3 S11
            rcases HK3.out with ⟨rfl, rfl⟩ | ⟨rfl, d3, hd3, hdok3, rfl⟩
            · clear HK3
              go_wp2
              go_ret
              exact ⟨rfl, A.out⟩
            · have HAD := Lib.hid (HAE.out d3 hd3 HR3.out)
              clear HK3 HAE hd3 hdok3
              go_wp2_with fail
              refine (HAD.out _ _ _ S12.out S7.out).mono ?_
              rintro e w23 ⟨rfl, hb⟩
              replace S5 := Lib.hid (S5.out.below hb)
              replace S7 := Lib.hid (S7.out.below hb)
              replace S12 := Lib.hid (S12.out.below hb)
              replace A := Lib.hid (bthen A.out hb)
              clear hb
              go_wp2
              go_ret
              exact ⟨rfl, A.out⟩
          · skip
            go_wp2_with fail
            refine (HI3.out _ _ S5.out).mono ?_
            rintro e w20 ⟨A11, c11, rfl, s11, hb⟩
            replace S5 := Lib.hid (S5.out.below hb)
            replace S7 := Lib.hid (S7.out.below hb)
            replace A := Lib.hid (bthen A.out hb)
            clear hb
            have S11 := Lib.hid s11
            clear s11
            go_wp2_with fail
            refine (HS3.out _ _ S5.out).mono ?_
            rintro e w21 ⟨A12, c12, rfl, s12, hb⟩
            replace S5 := Lib.hid (S5.out.below hb)
            replace S7 := Lib.hid (S7.out.below hb)
            replace S11 := Lib.hid (S11.out.below hb)
            replace A := Lib.hid (bthen A.out hb)
            clear hb
            have S12 := Lib.hid s12
            clear s12
            go_wp2_with fail
            refine (HLF3.out _ _ _ S11.out S12.out).mono ?_
            rintro e w22 ⟨rfl, hb⟩
            replace S5 := Lib.hid (S5.out.below hb)
            replace S7 := Lib.hid (S7.out.below hb)
            replace S11 := Lib.hid (S11.out.below hb)
            replace S12 := Lib.hid (S12.out.below hb)
            replace A := Lib.hid (bthen A.out hb)
            clear hb
            clear HI3 HS3 HLF3 S11
            rcases HK3.out with ⟨rfl, rfl⟩ | ⟨rfl, d3, hd3, hdok3, rfl⟩
            · clear HK3
              go_wp2
              go_ret
              exact ⟨rfl, A.out⟩
            · have HAD := Lib.hid (HAE.out d3 hd3 HR3.out)
              clear HK3 HAE hd3 hdok3
              go_wp2_with fail
              refine (HAD.out _ _ _ S12.out S7.out).mono ?_
              rintro e w23 ⟨rfl, hb⟩
              replace S5 := Lib.hid (S5.out.below hb)
              replace S7 := Lib.hid (S7.out.below hb)
              replace S12 := Lib.hid (S12.out.below hb)
              replace A := Lib.hid (bthen A.out hb)
              clear hb
              go_wp2
              go_ret
              exact ⟨rfl, A.out⟩
      · skip
        go_wp2_with fail
        refine (HD2.out _ h.out).mono ?_
        rintro e w7 ⟨u5, L2, x2, rfl, hL2, s5, hb⟩
        replace h := Lib.hid (h.out.below hb)
        replace A := Lib.hid (bthen A.out hb)
        clear hb
        obtain ⟨A5, c5, rfl⟩ := s5.opn
        have S5 := Lib.hid s5
        clear s5 HD2
        obtain ⟨R2, k2, b, T, kt, hR2, hTL, hI2, hS2, hT1, hT2, hK2⟩ := lf_both L2 x2 (by omega)
        have HI2 := Lib.hid hI2
        have HS2 := Lib.hid hS2
        have HT1 := Lib.hid hT1
        have HT2 := Lib.hid hT2
        have HK2 := Lib.hid hK2
        clear hI2 hS2 hT1 hT2 hK2
        have HLF2 := Lib.hid (fun v u W a b => laws_likeFormula5 v u R2 W a b (by omega))
        have HLT := Lib.hid (fun v u W a c => laws_likeTrace5 b v u T W a c (by omega))
        go_wp2_with fail
        refine (HI2.out _ _ S5.out).mono ?_
        rintro e w8 ⟨A6, c6, rfl, s6, hb⟩
        replace S5 := Lib.hid (S5.out.below hb)
        replace A := Lib.hid (bthen A.out hb)
        clear hb
        have S6 := Lib.hid s6
        clear s6
        go_wp2_with fail
        refine (HS2.out _ _ S5.out).mono ?_
        rintro e w9 ⟨A7, c7, rfl, s7, hb⟩
        replace S5 := Lib.hid (S5.out.below hb)
        replace S6 := Lib.hid (S6.out.below hb)
        replace A := Lib.hid (bthen A.out hb)
        clear hb
        have S7 := Lib.hid s7
        clear s7
        go_wp2_with fail
        refine (HT1.out _ _ S5.out).mono ?_
        rintro e w10 ⟨A8, c8, rfl, s8, hb⟩
        replace S5 := Lib.hid (S5.out.below hb)
        replace S6 := Lib.hid (S6.out.below hb)
        replace S7 := Lib.hid (S7.out.below hb)
        replace A := Lib.hid (bthen A.out hb)
        clear hb
        have S8 := Lib.hid s8
        clear s8
        go_upto_region 17 with fail
        have hb := below_alloc' w10 (.cells #[.bool b, .slice A8 T.length c8] 55)
        have T8 := Lib.hid (Bk.new w10 #[.bool b, .slice A8 T.length c8] 55)
        replace S5 := Lib.hid (S5.out.below hb)
        replace S6 := Lib.hid (S6.out.below hb)
        replace S7 := Lib.hid (S7.out.below hb)
        replace S8 := Lib.hid (S8.out.below hb)
        replace A := Lib.hid (bthen A.out hb)
        clear hb
        generalize World.alloc w10 _ = w11 at *
        have T8s := T8.out.1
        have T8c := T8.out.2
        go_wp2_with fail
        clear T8s T8c
        refine (HT2.out _ _ S5.out).mono ?_
        rintro e w12 ⟨A9, c9, rfl, s9, hb⟩
        replace S5 := Lib.hid (S5.out.below hb)
        replace S6 := Lib.hid (S6.out.below hb)
        replace S7 := Lib.hid (S7.out.below hb)
        replace S8 := Lib.hid (S8.out.below hb)
        replace T8 := Lib.hid (T8.out.below hb)
        replace A := Lib.hid (bthen A.out hb)
        clear hb
        have S9 := Lib.hid s9
        clear s9
        have T8s := T8.out.1
        have T8c := T8.out.2
        go_upto_region 18 with fail
        clear T8s T8c
        have hb := below_alloc' w12 (.cells #[.bool b, .slice A9 T.length c9] 55)
        have T9 := Lib.hid (Bk.new w12 #[.bool b, .slice A9 T.length c9] 55)
        replace S5 := Lib.hid (S5.out.below hb)
        replace S6 := Lib.hid (S6.out.below hb)
        replace S7 := Lib.hid (S7.out.below hb)
        replace S8 := Lib.hid (S8.out.below hb)
        replace T8 := Lib.hid (T8.out.below hb)
        replace S9 := Lib.hid (S9.out.below hb)
        replace A := Lib.hid (bthen A.out hb)
        clear hb
        generalize World.alloc w12 _ = w13 at *
        have T8s := T8.out.1
        have T8c := T8.out.2
        have T9s := T9.out.1
        have T9c := T9.out.2
        go_wp2_with fail
        clear T8s T8c T9s T9c
        refine (HLF2.out _ _ _ S6.out S7.out).mono ?_
        rintro e w14 ⟨rfl, hb⟩
        replace S5 := Lib.hid (S5.out.below hb)
        replace S6 := Lib.hid (S6.out.below hb)
        replace S7 := Lib.hid (S7.out.below hb)
        replace S8 := Lib.hid (S8.out.below hb)
        replace T8 := Lib.hid (T8.out.below hb)
        replace S9 := Lib.hid (S9.out.below hb)
        replace T9 := Lib.hid (T9.out.below hb)
        replace A := Lib.hid (bthen A.out hb)
        clear hb
        have T8s := T8.out.1
        have T8c := T8.out.2
        have T9s := T9.out.1
        have T9c := T9.out.2
        go_wp2_with fail
        clear T8s T8c T9s T9c
        refine (HLT.out _ _ _ S8.out S9.out).mono ?_
        rintro e w15 ⟨rfl, hb⟩
        replace S5 := Lib.hid (S5.out.below hb)
        replace S6 := Lib.hid (S6.out.below hb)
        replace S7 := Lib.hid (S7.out.below hb)
        replace S8 := Lib.hid (S8.out.below hb)
        replace T8 := Lib.hid (T8.out.below hb)
        replace S9 := Lib.hid (S9.out.below hb)
        replace T9 := Lib.hid (T9.out.below hb)
        replace A := Lib.hid (bthen A.out hb)
        clear hb
        clear HI2 HS2 HT1 HT2 HLF2 S6 S8 T8
        cases hk2 : (k2 == 0)
        · clear HK2
          go_wp2
          go_ret
          exact ⟨rfl, A.out⟩
        · obtain rfl : k2 = 0 := by simpa using hk2
          clear hk2
          obtain ⟨f2, n2, hok2, rfl, hl2, rfl, hn2, hg2, ho2, hb2, hT, rfl⟩ := HK2.out rfl
          obtain ⟨hnv, e1, e2, ⟨y2, cd2, eif, hcs2⟩, hal⟩ := ltl_pack hok2 hg2 ho2 hb2 hT hR2
          obtain ⟨R3, k3, hR3, hI3, hS3, hK3⟩ := fp_at hok2 hl2 hn2 hg2
          have hlk := novar_ok _ hnv
          have hlc := lcode_novar _ hnv hR2
          have HTO : Hid (∀ v W, Sl cN W v (enc (oF b T)) → Calls Tryz.prog 38 #[v] W fun e w' => ∃ A c, e = .returned (.tuple #[.agg #[.bool b, .slice A T.length c], .int .i64 0]) ∧ Sl cI w' (.slice A T.length c) T ∧ Below W.heap.size W w') := Lib.hid fun v W a => (impl_TraceOf_ok v _ W a hR2 hlc).mono fun e w' ⟨u, he, ho, hb⟩ => by rw [e1] at he; rw [e2] at ho; obtain ⟨A, c, rfl⟩ := ho.opn; exact ⟨A, c, he, ho.sl, hb⟩
          have HIF := Lib.hid (fun v u W a c => eif ▸ impl_IsFixedPoint_good f2 (oF b T) v u n2 W a c hl2 hR2 hok2 hlk hn2)
          have HAE : Hid (∀ d : Fm, fpB f2 n2 = some d → (enc d).length ≤ 40 → ∀ v u W, Sl cN W v (enc d) → Sl cN W u (enc (oF b T)) → Calls Tryz.prog 39 #[v, u] W fun e w' => e = .returned (.tuple #[.bool true, .int .i64 0]) ∧ Below W.heap.size W w') := Lib.hid fun d hd dl v u W a c => by obtain ⟨dn, da⟩ := hal d hd; have t := impl_AreLetterlessEqual_ok v u d (oF b T) W a c dl hR2 (lcode_two' (lcode_novar d dn dl) hlc); rw [da] at t; exact t
          have HI3 := Lib.hid hI3
          have HS3 := Lib.hid hS3
          have HK3 := Lib.hid hK3
          have HLF3 := Lib.hid (fun v u W a c => laws_likeFormula5 v u R3 W a c (by omega))
          have HR3 := Lib.hid hR3
          clear hI3 hS3 hK3 hnv e1 e2 eif hal hlk hlc hok2 hl2 hn2 hg2 ho2 hb2 hT hR2 hR3 HK2 hTL hL2
          generalize oF b T = l at *
          have T9s := T9.out.1
          have T9c := T9.out.2
          go_wp2_with fail
          clear T9s T9c
          refine (HTO.out _ _ S7.out).mono ?_
          rintro e w16 ⟨A10, c10, rfl, s10, hb⟩
          replace S5 := Lib.hid (S5.out.below hb)
          replace S7 := Lib.hid (S7.out.below hb)
          replace S9 := Lib.hid (S9.out.below hb)
          replace T9 := Lib.hid (T9.out.below hb)
          replace A := Lib.hid (bthen A.out hb)
          clear hb
          have S10 := Lib.hid s10
          clear s10
          have T9s := T9.out.1
          have T9c := T9.out.2
          go_upto_region 23 with fail
          clear T9s T9c
          have hb := below_alloc' w16 (.cells #[.bool b, .slice A10 T.length c10] 55)
          have T10 := Lib.hid (Bk.new w16 #[.bool b, .slice A10 T.length c10] 55)
          replace S5 := Lib.hid (S5.out.below hb)
          replace S7 := Lib.hid (S7.out.below hb)
          replace S9 := Lib.hid (S9.out.below hb)
          replace T9 := Lib.hid (T9.out.below hb)
          replace S10 := Lib.hid (S10.out.below hb)
          replace A := Lib.hid (bthen A.out hb)
          clear hb
          generalize World.alloc w16 _ = w17 at *
          have T9s := T9.out.1
          have T9c := T9.out.2
          have T10s := T10.out.1
          have T10c := T10.out.2
          go_wp2_with fail
          clear T9s T9c T10s T10c
          refine (HLT.out _ _ _ S10.out S9.out).mono ?_
          rintro e w18 ⟨rfl, hb⟩
          replace S5 := Lib.hid (S5.out.below hb)
          replace S7 := Lib.hid (S7.out.below hb)
          replace S9 := Lib.hid (S9.out.below hb)
          replace T9 := Lib.hid (T9.out.below hb)
          replace S10 := Lib.hid (S10.out.below hb)
          replace T10 := Lib.hid (T10.out.below hb)
          replace A := Lib.hid (bthen A.out hb)
          clear hb
          clear HTO HLT S9 S10 T9 T10
          go_wp2_with fail
          refine (HIF.out _ _ _ S5.out S7.out).mono ?_
          rintro e w19 ⟨rfl, hb⟩
          replace S5 := Lib.hid (S5.out.below hb)
          replace S7 := Lib.hid (S7.out.below hb)
          replace A := Lib.hid (bthen A.out hb)
          clear hb
          clear HIF
          rcases hcs2 with ⟨rfl, rfl⟩ | rfl
          · skip
            go_wp2_with fail
            refine (HI3.out _ _ S5.out).mono ?_
            rintro e w20 ⟨A11, c11, rfl, s11, hb⟩
            replace S5 := Lib.hid (S5.out.below hb)
            replace S7 := Lib.hid (S7.out.below hb)
            replace A := Lib.hid (bthen A.out hb)
            clear hb
            have S11 := Lib.hid s11
            clear s11
            go_wp2_with fail
            refine (HS3.out _ _ S5.out).mono ?_
            rintro e w21 ⟨A12, c12, rfl, s12, hb⟩
            replace S5 := Lib.hid (S5.out.below hb)
            replace S7 := Lib.hid (S7.out.below hb)
            replace S11 := Lib.hid (S11.out.below hb)
            replace A := Lib.hid (bthen A.out hb)
            clear hb
            have S12 := Lib.hid s12
            clear s12
            go_wp2_with fail
            refine (HLF3.out _ _ _ S11.out S12.out).mono ?_
            rintro e w22 ⟨rfl, hb⟩
            replace S5 := Lib.hid (S5.out.below hb)
            replace S7 := Lib.hid (S7.out.below hb)
            replace S11 := Lib.hid (S11.out.below hb)
            replace S12 := Lib.hid (S12.out.below hb)
            replace A := Lib.hid (bthen A.out hb)
            clear hb
            clear HI3 HS3 HLF3 S11
            rcases HK3.out with ⟨rfl, rfl⟩ | ⟨rfl, d3, hd3, hdok3, rfl⟩
            · clear HK3
              go_wp2
              go_ret
              exact ⟨rfl, A.out⟩
            · have HAD := Lib.hid (HAE.out d3 hd3 HR3.out)
              clear HK3 HAE hd3 hdok3
              go_wp2_with fail
              refine (HAD.out _ _ _ S12.out S7.out).mono ?_
              rintro e w23 ⟨rfl, hb⟩
              replace S5 := Lib.hid (S5.out.below hb)
              replace S7 := Lib.hid (S7.out.below hb)
              replace S12 := Lib.hid (S12.out.below hb)
              replace A := Lib.hid (bthen A.out hb)
              clear hb
              go_wp2
              go_ret
              exact ⟨rfl, A.out⟩
          · skip
            go_wp2_with fail
            refine (HI3.out _ _ S5.out).mono ?_
            rintro e w20 ⟨A11, c11, rfl, s11, hb⟩
            replace S5 := Lib.hid (S5.out.below hb)
            replace S7 := Lib.hid (S7.out.below hb)
            replace A := Lib.hid (bthen A.out hb)
            clear hb
            have S11 := Lib.hid s11
            clear s11
            go_wp2_with fail
            refine (HS3.out _ _ S5.out).mono ?_
            rintro e w21 ⟨A12, c12, rfl, s12, hb⟩
            replace S5 := Lib.hid (S5.out.below hb)
            replace S7 := Lib.hid (S7.out.below hb)
            replace S11 := Lib.hid (S11.out.below hb)
            replace A := Lib.hid (bthen A.out hb)
            clear hb
            have S12 := Lib.hid s12
            clear s12
            go_wp2_with fail
            refine (HLF3.out _ _ _ S11.out S12.out).mono ?_
            rintro e w22 ⟨rfl, hb⟩
            replace S5 := Lib.hid (S5.out.below hb)
            replace S7 := Lib.hid (S7.out.below hb)
            replace S11 := Lib.hid (S11.out.below hb)
            replace S12 := Lib.hid (S12.out.below hb)
            replace A := Lib.hid (bthen A.out hb)
            clear hb
            clear HI3 HS3 HLF3 S11
            rcases HK3.out with ⟨rfl, rfl⟩ | ⟨rfl, d3, hd3, hdok3, rfl⟩
            · clear HK3
              go_wp2
              go_ret
              exact ⟨rfl, A.out⟩
            · have HAD := Lib.hid (HAE.out d3 hd3 HR3.out)
              clear HK3 HAE hd3 hdok3
              go_wp2_with fail
              refine (HAD.out _ _ _ S12.out S7.out).mono ?_
              rintro e w23 ⟨rfl, hb⟩
              replace S5 := Lib.hid (S5.out.below hb)
              replace S7 := Lib.hid (S7.out.below hb)
              replace S12 := Lib.hid (S12.out.below hb)
              replace A := Lib.hid (bthen A.out hb)
              clear hb
              go_wp2
              go_ret
              exact ⟨rfl, A.out⟩
end Go.Proofs.YtgcoohlakcncbaaGreat

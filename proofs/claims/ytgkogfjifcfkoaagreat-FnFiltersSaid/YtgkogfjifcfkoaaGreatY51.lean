/- Joined of several texts. -/
import Derived.Test.YtgkogfjifcfkoaaGreatY42
import Derived.Test.YtgkogfjifcfkoaaGreatY43
import Derived.Test.YtgkogfjifcfkoaaGreatY50
namespace Go.Proofs.YtgkogfjifcfkoaaGreat
/- What FnFilters' walk takes: both sides' quotient as one. -/
open Go.RowKit
set_option linter.unusedVariables false
set_option linter.unusedSimpArgs false
theorem ff_sz (A O I : List (List Int)) (b t m : Int) : SzH (qTab A A O I b t m) (qTab O A O I b t m) (qTab I A O I b t m) := by
  by_cases h : fcd A O I b t m = 0
  · obtain ⟨A1, O1, I1, KA, KO, KI, b1, t1, m1, kb, kt, L, -, -, -, -, -, -, -, hK, e1, e2, e3, -⟩ := ff_ok h
    rw [e1, e2, e3]
    exact hK.sz
  · have e : ∀ X, qTab X A O I b t m = [] := fun X => by unfold qTab; rw [if_neg h]
    rw [e, e, e]
    have z : SzT [] := ⟨Nat.zero_le _, fun r hr => by cases hr⟩
    exact ⟨z, z, z⟩
theorem qa_both (A O I : List (List Int)) (b t m : Int) (hs : SzH A O I) : ∃ (XA XO XI : List (List Int)) (kb kt k : Int), SzH XA XO XI ∧
    (∀ a o i W, Hy W a o i A O I → Calls Tryz.prog 10 #[.agg #[a, o, i, .int .i64 b, .int .i64 t], .int .i64 m] W fun e w' => ∃ u0 u1 u2, e = .returned (.tuple #[.agg #[u0, u1, u2, .int .i64 kb, .int .i64 kt], .int .i64 k]) ∧ Hy w' u0 u1 u2 XA XO XI ∧ Below W.heap.size W w') ∧
    (∀ a o i W, Hy W a o i A O I → Calls Tryz.prog 19 #[.agg #[a, o, i, .int .i64 b, .int .i64 t], .int .i64 m] W fun e w' => ∃ u0 u1 u2, e = .returned (.tuple #[.agg #[u0, u1, u2, .int .i64 kb, .int .i64 kt], .int .i64 k]) ∧ Hy w' u0 u1 u2 XA XO XI ∧ Below W.heap.size W w') ∧
    k = fcd A O I b t m ∧ XA = qTab A A O I b t m ∧ XO = qTab O A O I b t m ∧ XI = qTab I A O I b t m ∧ kb = qNum b A O I b t m ∧ kt = qNum t A O I b t m := by
  refine ⟨_, _, _, _, _, _, ff_sz A O I b t m, fun a o i W h => ?_, fun a o i W h => ?_, rfl, rfl, rfl, rfl, rfl, rfl⟩
  · refine (impl_QuotientAlgebra a o i b t m A O I W h hs).mono ?_
    rintro e w' ⟨u0, u1, u2, H1, H2, rfl, -, -, -, o0, o1, o2, hb⟩
    exact ⟨u0, u1, u2, rfl, ⟨o0.sl, o1.sl, o2.sl⟩, hb⟩
  · refine (spec_QuotientAlgebra a o i b t m A O I W h hs).mono ?_
    rintro e w' ⟨u0, u1, u2, rfl, o0, o1, o2, hb⟩
    exact ⟨u0, u1, u2, rfl, ⟨o0.sl, o1.sl, o2.sl⟩, hb⟩
/- The walk of the law FnFilters, written by program (gen19W.py): it returns true and writes nothing that was there. -/
open Go.RowKit
set_option linter.unusedVariables false
set_option linter.unusedSimpArgs false
set_option maxHeartbeats 4000000 in
set_option maxRecDepth 100000 in
theorem final_Filters (v : Value) (xs : List (Fin 256)) (w : World) (h : Sl cY w v xs) :
    Calls Tryz.prog 4 #[v] w fun e w' => e = .returned (.bool true) ∧ Below w.heap.size w w' := by
  have A : Hid (Below w.heap.size w w) := Lib.hid (Below.refl _ _)
  go_enter Tryz.func4, Tryz.ntmps4
  replace h := Lib.hid h
  by_cases hbig : 4096 < xs.length
  · have HC := Lib.hid (decide_eq_true hbig ▸ laws_big v xs w h.out)
    clear hbig
    go_wp2_with fail
    refine HC.out.mono ?_
    rintro e w1 ⟨rfl, rfl⟩
    go_wp2
    go_ret
    exact ⟨rfl, A.out⟩
  · have HC := Lib.hid (decide_eq_false hbig ▸ laws_big v xs w h.out)
    have HD := Lib.hid (spec_DrawQuotientAlgebra v xs w h.out (by omega))
    clear hbig
    go_wp2_with fail
    refine HC.out.mono ?_
    rintro e w1 ⟨rfl, rfl⟩
    clear HC
    clear h
    go_wp2_with fail
    refine (HD.out).mono ?_
    rintro e w1 ⟨a, o, i, b, t, m, MA, MO, MI, rfl, h1, h12, hsz, hy, hb⟩
    replace A := Lib.hid (bthen A.out hb)
    clear hb
    clear HD
    obtain ⟨va, ca, rfl⟩ := hy.a.opn
    obtain ⟨vo, co, rfl⟩ := hy.o.opn
    obtain ⟨vi, ci, rfl⟩ := hy.i.opn
    replace hy := Lib.hid hy
    have SZ := Lib.hid hsz
    have H12 := Lib.hid h12
    obtain ⟨XA, XO, XI, kb, kt, k, hsx, qi, qs, ek, eXA, eXO, eXI, ekb, ekt⟩ := qa_both MA MO MI b t m hsz
    have SX := Lib.hid hsx
    have QI := Lib.hid qi
    have QS := Lib.hid qs
    have EK := Lib.hid ek
    have EXA := Lib.hid eXA
    have EXO := Lib.hid eXO
    have EXI := Lib.hid eXI
    have EKB := Lib.hid ekb
    have EKT := Lib.hid ekt
    have FF := Lib.hid (ff_cases MA MO MI b t m)
    rw [← ek] at FF
    clear hsz h1 h12 hsx qi qs ek eXA eXO eXI ekb ekt
    go_upto_region 4 with fail
    have hb := below_alloc' w1 (.cells #[.slice va MA.length ca, .slice vo MO.length co, .slice vi MI.length ci, .int .i64 b, .int .i64 t] 26)
    have T3 := Lib.hid (Bk.new w1 #[.slice va MA.length ca, .slice vo MO.length co, .slice vi MI.length ci, .int .i64 b, .int .i64 t] 26)
    replace hy := Lib.hid (hy.out.below hb)
    replace A := Lib.hid (bthen A.out hb)
    clear hb
    generalize World.alloc w1 _ = w2 at *
    have T3s := T3.out.1
    have T3c := T3.out.2
    go_wp2_with fail
    clear T3s T3c
    refine (QI.out _ _ _ _ hy.out).mono ?_
    rintro e w3 ⟨u0, u1, u2, rfl, hk, hb⟩
    replace hy := Lib.hid (hy.out.below hb)
    replace T3 := Lib.hid (T3.out.below hb)
    replace A := Lib.hid (bthen A.out hb)
    clear hb
    obtain ⟨ua, da, rfl⟩ := hk.a.opn
    obtain ⟨uo, do_, rfl⟩ := hk.o.opn
    obtain ⟨ui, di, rfl⟩ := hk.i.opn
    replace hk := Lib.hid hk
    go_upto_region 5 with fail
    have hb := below_alloc' w3 (.cells #[.slice ua XA.length da, .slice uo XO.length do_, .slice ui XI.length di, .int .i64 kb, .int .i64 kt] 26)
    have T5 := Lib.hid (Bk.new w3 #[.slice ua XA.length da, .slice uo XO.length do_, .slice ui XI.length di, .int .i64 kb, .int .i64 kt] 26)
    replace hy := Lib.hid (hy.out.below hb)
    replace T3 := Lib.hid (T3.out.below hb)
    replace hk := Lib.hid (hk.out.below hb)
    replace A := Lib.hid (bthen A.out hb)
    clear hb
    generalize World.alloc w3 _ = w4 at *
    have T3s := T3.out.1
    have T3c := T3.out.2
    go_wp2_with fail
    clear T3s T3c
    refine (QS.out _ _ _ _ hy.out).mono ?_
    rintro e w5 ⟨u0, u1, u2, rfl, hr, hb⟩
    replace hy := Lib.hid (hy.out.below hb)
    replace T3 := Lib.hid (T3.out.below hb)
    replace hk := Lib.hid (hk.out.below hb)
    replace T5 := Lib.hid (T5.out.below hb)
    replace A := Lib.hid (bthen A.out hb)
    clear hb
    obtain ⟨ra, ea, rfl⟩ := hr.a.opn
    obtain ⟨ro, eo, rfl⟩ := hr.o.opn
    obtain ⟨ri, ei, rfl⟩ := hr.i.opn
    replace hr := Lib.hid hr
    go_upto_region 6 with fail
    have hb := below_alloc' w5 (.cells #[.slice ra XA.length ea, .slice ro XO.length eo, .slice ri XI.length ei, .int .i64 kb, .int .i64 kt] 26)
    have T7 := Lib.hid (Bk.new w5 #[.slice ra XA.length ea, .slice ro XO.length eo, .slice ri XI.length ei, .int .i64 kb, .int .i64 kt] 26)
    replace hy := Lib.hid (hy.out.below hb)
    replace T3 := Lib.hid (T3.out.below hb)
    replace hk := Lib.hid (hk.out.below hb)
    replace T5 := Lib.hid (T5.out.below hb)
    replace hr := Lib.hid (hr.out.below hb)
    replace A := Lib.hid (bthen A.out hb)
    clear hb
    generalize World.alloc w5 _ = w6 at *
    clear QI QS
    have hkk : (k != k) = false := by simp
    have T5s := T5.out.1
    have T5c := T5.out.2
    have T7s := T7.out.1
    have T7c := T7.out.2
    go_wp2_with fail
    clear T5s T5c T7s T7c
    refine (laws_sameHeyting9 _ _ _ _ _ _ kb kt XA XO XI _ hk.out hr.out SX.out).mono ?_
    rintro e w7 ⟨rfl, hb⟩
    replace hy := Lib.hid (hy.out.below hb)
    replace T3 := Lib.hid (T3.out.below hb)
    replace hk := Lib.hid (hk.out.below hb)
    replace T5 := Lib.hid (T5.out.below hb)
    replace hr := Lib.hid (hr.out.below hb)
    replace T7 := Lib.hid (T7.out.below hb)
    replace A := Lib.hid (bthen A.out hb)
    clear hb
    clear hkk hr T7
    rcases FF.out with rfl | rfl | ⟨h0, h5⟩
    · clear FF EK
      go_wp2
      go_ret
      exact ⟨rfl, A.out⟩
    · clear FF EK
      go_wp2
      go_ret
      exact ⟨rfl, A.out⟩
    · obtain ⟨f1, f2, f3, f4, f5⟩ := ff_all h0
      have F1 := Lib.hid f1
      have F2 := Lib.hid f2
      have F3 := Lib.hid f3
      have F4 := Lib.hid f4
      have F5 := Lib.hid f5
      have H0 := Lib.hid h0
      have H5 := Lib.hid h5
      have hk1 : (k == 1) = false := by rcases h5 with ⟨rfl, -⟩ | ⟨rfl, -⟩ <;> rfl
      have hk2 : (k == 2) = false := by rcases h5 with ⟨rfl, -⟩ | ⟨rfl, -⟩ <;> rfl
      have IF := Lib.hid (fun W a => impl_IsFilter (.slice va MA.length ca) (.slice vo MO.length co) (.slice vi MI.length ci) b t m MA MO MI W a SZ.out)
      have FO := Lib.hid (fun W a => impl_FilterOf (.slice va MA.length ca) (.slice vo MO.length co) (.slice vi MI.length ci) b t m MA MO MI W a SZ.out)
      have AF := Lib.hid (fun W a => impl_AllFilters (.slice va MA.length ca) (.slice vo MO.length co) (.slice vi MI.length ci) b t MA MO MI W a SZ.out)
      rw [h0] at IF FO
      rw [f1] at AF
      have AFL := Lib.hid (show (afI MA MO MI b t).length ≤ 1073741824 by rw [f2]; have := H12.out; omega)
      clear f1 f2 f3 f4 f5 h0 h5 FF
      obtain ⟨fb, hfb⟩ : ∃ fb, ifB MA MO MI b t m = fb := ⟨_, rfl⟩
      obtain ⟨fo, hfo⟩ : ∃ fo, foI MA MO MI b t m = fo := ⟨_, rfl⟩
      obtain ⟨AL, hAL⟩ : ∃ AL, afI MA MO MI b t = AL := ⟨_, rfl⟩
      rw [hfb] at IF F3 F5 H5
      rw [hfo] at FO F4 F5
      rw [hAL] at AF AFL F2 F3 F4
      clear hfb hfo hAL
      have T3s := T3.out.1
      have T3c := T3.out.2
      go_wp2_with fail
      clear T3s T3c
      refine (IF.out _ hy.out).mono ?_
      rintro e w8 ⟨rfl, hb⟩
      replace hy := Lib.hid (hy.out.below hb)
      replace T3 := Lib.hid (T3.out.below hb)
      replace hk := Lib.hid (hk.out.below hb)
      replace T5 := Lib.hid (T5.out.below hb)
      replace A := Lib.hid (bthen A.out hb)
      clear hb
      clear hk1 hk2
      have T3s := T3.out.1
      have T3c := T3.out.2
      go_wp2_with fail
      clear T3s T3c
      refine (FO.out _ hy.out).mono ?_
      rintro e w9 ⟨rfl, hb⟩
      replace hy := Lib.hid (hy.out.below hb)
      replace T3 := Lib.hid (T3.out.below hb)
      replace hk := Lib.hid (hk.out.below hb)
      replace T5 := Lib.hid (T5.out.below hb)
      replace A := Lib.hid (bthen A.out hb)
      clear hb
      have T3s := T3.out.1
      have T3c := T3.out.2
      go_wp2_with fail
      clear T3s T3c
      refine (AF.out _ hy.out).mono ?_
      rintro e w10 ⟨uf, rfl, sf, hb⟩
      replace hy := Lib.hid (hy.out.below hb)
      replace T3 := Lib.hid (T3.out.below hb)
      replace hk := Lib.hid (hk.out.below hb)
      replace T5 := Lib.hid (T5.out.below hb)
      replace A := Lib.hid (bthen A.out hb)
      clear hb
      replace sf := Lib.hid sf
      obtain ⟨vf, cf, rfl⟩ := sf.out.opn
      clear IF FO AF
      have LF := Lib.hid (F2.out)
      have n1 : (((AL.length : Nat) : Int) != (MA.length : Int)) = false := by rw [LF.out]; simp
      have HI1 := Lib.hid (fun W a => F3.out ▸ laws_hasInt (.slice vf AL.length cf) AL m W a AFL.out)
      have HI2 := Lib.hid (fun W a => F4.out ▸ laws_hasInt (.slice vf AL.length cf) AL fo W a AFL.out)
      have e5 := F5.out
      rcases H5.out with ⟨rfl, rfl⟩ | ⟨rfl, rfl⟩
      · skip
        have T3s := T3.out.1
        have T3c := T3.out.2
        go_wp2_with fail
        clear T3s T3c
        refine (HI1.out _ sf.out).mono ?_
        rintro e _ ⟨rfl, rfl⟩
        have T3s := T3.out.1
        have T3c := T3.out.2
        go_wp2_with fail
        clear T3s T3c
        refine (HI2.out _ sf.out).mono ?_
        rintro e _ ⟨rfl, rfl⟩
        clear n1 HI1 HI2
        go_wp2
        go_ret
        exact ⟨rfl, A.out⟩
      · skip
        have T3s := T3.out.1
        have T3c := T3.out.2
        go_wp2_with fail
        clear T3s T3c
        refine (HI1.out _ sf.out).mono ?_
        rintro e _ ⟨rfl, rfl⟩
        have T3s := T3.out.1
        have T3c := T3.out.2
        go_wp2_with fail
        clear T3s T3c
        refine (HI2.out _ sf.out).mono ?_
        rintro e _ ⟨rfl, rfl⟩
        clear HI1 HI2
        go_upto_region 15 with fail
        clear n1 e5
        obtain ⟨A1, O1, I1, KA, KO, KI, b1, t1, m1, kb1, kt1, L, rfl, rfl, rfl, rfl, rfl, rfl, hT, hTK, q1, q2, q3, q4, q5, q6, hmp, hker, hims, hytK⟩ := ff_ok EK.out.symm
        obtain rfl := EXA.out.trans q1
        obtain rfl := EXO.out.trans q2
        obtain rfl := EXI.out.trans q3
        obtain rfl := EKB.out.trans q4
        obtain rfl := EKT.out.trans q5
        have CG := Lib.hid (fun W a => impl_CongruenceOfFilter (.slice va (lil A1).length ca) (.slice vo (lil O1).length co) (.slice vi (lil I1).length ci) (b1 : Int) (t1 : Int) (m1 : Int) _ _ _ W a SZ.out)
        rw [← EK.out, q6] at CG
        have hyH : hyt (lil A1) (lil O1) (lil I1) (b1 : Int) (t1 : Int) := by
          have q := H0.out
          unfold hcd at q
          by_cases z : hyt (lil A1) (lil O1) (lil I1) (b1 : Int) (t1 : Int)
          · exact z
          · rw [if_neg z] at q; exact absurd q (by decide)
        have M1 := Lib.hid (fun u W a c d => impl_IsHeytingMap_yes (.slice va (lil A1).length ca) (.slice vo (lil O1).length co) (.slice vi (lil I1).length ci) (.slice ua (lil KA).length da) (.slice uo (lil KO).length do_) (.slice ui (lil KI).length di) u A1 O1 I1 KA KO KI b1 t1 kb1 kt1 L W a c d hT hTK hyH hytK hmp)
        have M2 := Lib.hid (fun u W a c d => impl_KernelOfMap_yes (.slice va (lil A1).length ca) (.slice vo (lil O1).length co) (.slice vi (lil I1).length ci) (.slice ua (lil KA).length da) (.slice uo (lil KO).length do_) (.slice ui (lil KI).length di) u A1 O1 I1 KA KO KI b1 t1 kb1 kt1 L W a c d hT hTK hyH hytK hmp)
        have M3 := Lib.hid (fun u W a c d => impl_ImageOfMap_yes (.slice va (lil A1).length ca) (.slice vo (lil O1).length co) (.slice vi (lil I1).length ci) (.slice ua (lil KA).length da) (.slice uo (lil KO).length do_) (.slice ui (lil KI).length di) u A1 O1 I1 KA KO KI b1 t1 kb1 kt1 L W a c d hT hTK hyH hytK hmp)
        rw [hker] at M2
        rw [hims] at M3
        have IH := Lib.hid (fun W a => impl_IsHeyting (.slice ua (lil KA).length da) (.slice uo (lil KO).length do_) (.slice ui (lil KI).length di) (kb1 : Int) (kt1 : Int) _ _ _ W a SX.out)
        rw [decide_eq_true hytK] at IH
        have LKA := Lib.hid (lil_length KA)
        have FU := Lib.hid (fun W => laws_full9M KA.length _ rfl W hTK.n30)
        rw [← LKA.out] at FU M3
        obtain ⟨FL, hFL⟩ : ∃ FL, 2 ^ (lil KA).length - 1 = FL := ⟨_, rfl⟩
        rw [hFL] at FU M3
        clear hT hTK q1 q2 q3 q4 q5 q6 hmp hker hims hytK hyH hFL EXA EXO EXI EKB EKT EK H0 F1 F2 F3 F4 F5 H5 LF AFL SX SZ
        have T3s := T3.out.1
        have T3c := T3.out.2
        go_wp2_with fail
        clear T3s T3c
        refine (CG.out _ hy.out).mono ?_
        rintro e w11 ⟨u, rfl, ol, hb⟩
        replace hy := Lib.hid (hy.out.below hb)
        replace T3 := Lib.hid (T3.out.below hb)
        replace hk := Lib.hid (hk.out.below hb)
        replace T5 := Lib.hid (T5.out.below hb)
        replace sf := Lib.hid (sf.out.below hb)
        replace A := Lib.hid (bthen A.out hb)
        clear hb
        have sl := ol.1.sl
        clear ol
        replace sl := Lib.hid sl
        obtain ⟨vl, cl, rfl⟩ := sl.out.opn
        have T3s := T3.out.1
        have T3c := T3.out.2
        have T5s := T5.out.1
        have T5c := T5.out.2
        go_wp2_with fail
        clear T3s T3c T5s T5c
        refine (M1.out _ _ hy.out hk.out sl.out).mono ?_
        rintro e w12 ⟨rfl, hb⟩
        replace hy := Lib.hid (hy.out.below hb)
        replace T3 := Lib.hid (T3.out.below hb)
        replace hk := Lib.hid (hk.out.below hb)
        replace T5 := Lib.hid (T5.out.below hb)
        replace sf := Lib.hid (sf.out.below hb)
        replace sl := Lib.hid (sl.out.below hb)
        replace A := Lib.hid (bthen A.out hb)
        clear hb
        have T3s := T3.out.1
        have T3c := T3.out.2
        have T5s := T5.out.1
        have T5c := T5.out.2
        go_wp2_with fail
        clear T3s T3c T5s T5c
        refine (M2.out _ _ hy.out hk.out sl.out).mono ?_
        rintro e w13 ⟨rfl, hb⟩
        replace hy := Lib.hid (hy.out.below hb)
        replace T3 := Lib.hid (T3.out.below hb)
        replace hk := Lib.hid (hk.out.below hb)
        replace T5 := Lib.hid (T5.out.below hb)
        replace sf := Lib.hid (sf.out.below hb)
        replace sl := Lib.hid (sl.out.below hb)
        replace A := Lib.hid (bthen A.out hb)
        clear hb
        have T3s := T3.out.1
        have T3c := T3.out.2
        have T5s := T5.out.1
        have T5c := T5.out.2
        go_wp2_with fail
        clear T3s T3c T5s T5c
        refine (M3.out _ _ hy.out hk.out sl.out).mono ?_
        rintro e w14 ⟨rfl, hb⟩
        replace hy := Lib.hid (hy.out.below hb)
        replace T3 := Lib.hid (T3.out.below hb)
        replace hk := Lib.hid (hk.out.below hb)
        replace T5 := Lib.hid (T5.out.below hb)
        replace sf := Lib.hid (sf.out.below hb)
        replace sl := Lib.hid (sl.out.below hb)
        replace A := Lib.hid (bthen A.out hb)
        clear hb
        clear CG M1 M2 M3
        have hmm : (((m1 : Nat) : Int) == (m1 : Int)) = true := by simp
        have hff : (((FL : Nat) : Int) == (FL : Int)) = true := by simp
        have T5s := T5.out.1
        have T5c := T5.out.2
        go_wp2_with fail
        clear T5s T5c
        refine (FU.out _).mono ?_
        rintro e _ ⟨rfl, rfl⟩
        have T5s := T5.out.1
        have T5c := T5.out.2
        go_wp2_with fail
        clear T5s T5c
        refine (IH.out _ hk.out).mono ?_
        rintro e w15 ⟨rfl, hb⟩
        replace hy := Lib.hid (hy.out.below hb)
        replace T3 := Lib.hid (T3.out.below hb)
        replace hk := Lib.hid (hk.out.below hb)
        replace T5 := Lib.hid (T5.out.below hb)
        replace sf := Lib.hid (sf.out.below hb)
        replace sl := Lib.hid (sl.out.below hb)
        replace A := Lib.hid (bthen A.out hb)
        clear hb
        go_wp2
        go_ret
        exact ⟨rfl, A.out⟩
end Go.Proofs.YtgkogfjifcfkoaaGreat

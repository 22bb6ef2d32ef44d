/- The walk of FnTraceAlgebra, written by program (gen32A.py). -/
import Derived.Test.YtjpgiamblbgkpaaGreat32A
namespace Go.Proofs.YtjpgiamblbgkpaaGreat
open Go.RowKit
set_option linter.unusedVariables false
set_option linter.unusedSimpArgs false
set_option maxHeartbeats 4000000 in
set_option maxRecDepth 100000 in
theorem final_TraceAlgebra (v : Value) (xs : List (Fin 256)) (w : World) (h : Sl cY w v xs) :
    Calls Tryz.prog 3 #[v] w fun e w' => e = .returned (.bool true) ∧ Below w.heap.size w w' := by
  have A : Hid (Below w.heap.size w w) := Lib.hid (Below.refl _ _)
  go_enter Tryz.func3, Tryz.ntmps3
  replace h := Lib.hid h
  by_cases hbig : 4096 < xs.length
  · have HC := Lib.hid (decide_eq_true hbig ▸ laws_big v xs w h.out)
    clear hbig
    go_wp2_with fail
    refine HC.out.mono ?_
    rintro e w1 ⟨rfl, rfl⟩
    go_wp2
    go_ret
    exact ⟨rfl, A.out⟩
  · have HC := Lib.hid (decide_eq_false hbig ▸ laws_big v xs w h.out)
    have HD := Lib.hid (spec_DrawMeetTraces v xs w h.out (by omega))
    clear hbig
    go_wp2_with fail
    refine HC.out.mono ?_
    rintro e w1 ⟨rfl, rfl⟩
    clear HC
    go_wp2_with fail
    refine (HD.out).mono ?_
    rintro e w1 ⟨b, u, L, b', u', L', rfl, hL, hL', h1, h2, hb⟩
    replace A := Lib.hid (bthen A.out hb)
    clear hb
    clear HD h
    have S1 := Lib.hid h1.sl
    clear h1
    have S2 := Lib.hid h2.sl
    clear h2
    obtain ⟨A1, c1, rfl⟩ := S1.out.opn
    obtain ⟨A2, c2, rfl⟩ := S2.out.opn
    go_upto_region 4 with fail
    have hb := below_alloc' w1 (.cells #[.bool b, (.slice A1 L.length c1)] 26)
    have hb2 := below_alloc' (w1.alloc (.cells #[.bool b, (.slice A1 L.length c1)] 26)) (.cells #[.bool b', (.slice A2 L'.length c2)] 26)
    have T3 := Lib.hid ((Bk.new w1 #[.bool b, (.slice A1 L.length c1)] 26).alloc (.cells #[.bool b', (.slice A2 L'.length c2)] 26))
    have T4 := Lib.hid (Bk.new (w1.alloc (.cells #[.bool b, (.slice A1 L.length c1)] 26)) #[.bool b', (.slice A2 L'.length c2)] 26)
    rw [show (w1.alloc (.cells #[.bool b, (.slice A1 L.length c1)] 26)).heap.size = w1.heap.size + 1 by simp] at T4
    replace S1 := Lib.hid (S1.out.below (bthen hb hb2))
    replace S2 := Lib.hid (S2.out.below (bthen hb hb2))
    replace A := Lib.hid (bthen A.out (bthen hb hb2))
    clear hb hb2
    generalize World.alloc (World.alloc w1 _) _ = wa at *
    obtain ⟨mb, ML, k, hML, HI, HS, hk⟩ := meet_both b L b' L' hL hL'
    replace HI := Lib.hid HI
    replace HS := Lib.hid HS
    replace hL := Lib.hid hL
    have hL2 := Lib.hid hL'
    clear hL'
    replace hML := Lib.hid hML
    replace hk := Lib.hid hk
    have T3s := T3.out.1
    have T3c := T3.out.2
    have T4s := T4.out.1
    have T4c := T4.out.2
    go_wp2_with fail
    clear T3s T3c T4s T4c
    refine (HI.out _ _ _ S1.out S2.out).mono ?_
    rintro e w2 ⟨r5, rfl, S5, hb⟩
    replace S1 := Lib.hid (S1.out.below hb)
    replace S2 := Lib.hid (S2.out.below hb)
    replace T3 := Lib.hid (T3.out.below hb)
    replace T4 := Lib.hid (T4.out.below hb)
    replace A := Lib.hid (bthen A.out hb)
    clear hb
    replace S5 := Lib.hid S5.sl
    obtain ⟨A5, c5, rfl⟩ := S5.out.opn
    go_upto_region 5 with fail
    have hb := below_alloc' w2 (.cells #[.bool mb, (.slice A5 ML.length c5)] 26)
    have T5 := Lib.hid (Bk.new w2 #[.bool mb, (.slice A5 ML.length c5)] 26)
    replace S1 := Lib.hid (S1.out.below hb)
    replace S2 := Lib.hid (S2.out.below hb)
    replace T3 := Lib.hid (T3.out.below hb)
    replace T4 := Lib.hid (T4.out.below hb)
    replace S5 := Lib.hid (S5.out.below hb)
    replace A := Lib.hid (bthen A.out hb)
    clear hb
    generalize World.alloc w2 _ = w3 at *
    have T3s := T3.out.1
    have T3c := T3.out.2
    have T4s := T4.out.1
    have T4c := T4.out.2
    go_wp2_with fail
    clear T3s T3c T4s T4c
    refine (HS.out _ _ _ S1.out S2.out).mono ?_
    rintro e w4 ⟨r7, rfl, S7, hb⟩
    replace S1 := Lib.hid (S1.out.below hb)
    replace S2 := Lib.hid (S2.out.below hb)
    replace T3 := Lib.hid (T3.out.below hb)
    replace T4 := Lib.hid (T4.out.below hb)
    replace S5 := Lib.hid (S5.out.below hb)
    replace T5 := Lib.hid (T5.out.below hb)
    replace A := Lib.hid (bthen A.out hb)
    clear hb
    replace S7 := Lib.hid S7.sl
    obtain ⟨A7, c7, rfl⟩ := S7.out.opn
    clear HI HS
    go_upto_region 6 with fail
    have hb := below_alloc' w4 (.cells #[.bool mb, (.slice A7 ML.length c7)] 26)
    have T7 := Lib.hid (Bk.new w4 #[.bool mb, (.slice A7 ML.length c7)] 26)
    replace S1 := Lib.hid (S1.out.below hb)
    replace S2 := Lib.hid (S2.out.below hb)
    replace T3 := Lib.hid (T3.out.below hb)
    replace T4 := Lib.hid (T4.out.below hb)
    replace S5 := Lib.hid (S5.out.below hb)
    replace T5 := Lib.hid (T5.out.below hb)
    replace S7 := Lib.hid (S7.out.below hb)
    replace A := Lib.hid (bthen A.out hb)
    clear hb
    generalize World.alloc w4 _ = w5 at *
    have T5s := T5.out.1
    have T5c := T5.out.2
    have T7s := T7.out.1
    have T7c := T7.out.2
    go_wp2_with fail
    clear T5s T5c T7s T7c
    refine (laws_likeTrace5 _ _ _ _ _ S5.out S7.out (by have := hML.out; omega)).mono ?_
    rintro e w6 ⟨rfl, hb⟩
    replace S1 := Lib.hid (S1.out.below hb)
    replace S2 := Lib.hid (S2.out.below hb)
    replace T3 := Lib.hid (T3.out.below hb)
    replace T4 := Lib.hid (T4.out.below hb)
    replace S5 := Lib.hid (S5.out.below hb)
    replace T5 := Lib.hid (T5.out.below hb)
    replace S7 := Lib.hid (S7.out.below hb)
    replace T7 := Lib.hid (T7.out.below hb)
    replace A := Lib.hid (bthen A.out hb)
    clear hb
    rcases hk.out with rfl | ⟨rfl, hc, hc', rfl, rfl⟩
    · clear hk
      go_wp2
      go_ret
      exact ⟨rfl, A.out⟩
    · clear hk
      obtain ⟨HCi, HCs⟩ := compl_both b L hL.out hc
      replace HCi := Lib.hid HCi
      replace HCs := Lib.hid HCs
      obtain ⟨bb, BL, kb, hBL, HBi, HBs, hkb⟩ := box_both b L hL.out hc
      replace HBi := Lib.hid HBi
      replace HBs := Lib.hid HBs
      replace hkb := Lib.hid hkb
      replace hBL := Lib.hid hBL
      replace hc := Lib.hid hc
      replace hc' := Lib.hid hc'
      have T3s := T3.out.1
      have T3c := T3.out.2
      go_wp2_with fail
      clear T3s T3c
      refine (HCi.out _ _ S1.out).mono ?_
      rintro e w7 ⟨r9, rfl, S9, hb⟩
      replace S1 := Lib.hid (S1.out.below hb)
      replace S2 := Lib.hid (S2.out.below hb)
      replace T3 := Lib.hid (T3.out.below hb)
      replace T4 := Lib.hid (T4.out.below hb)
      replace S5 := Lib.hid (S5.out.below hb)
      replace T5 := Lib.hid (T5.out.below hb)
      replace S7 := Lib.hid (S7.out.below hb)
      replace T7 := Lib.hid (T7.out.below hb)
      replace A := Lib.hid (bthen A.out hb)
      clear hb
      replace S9 := Lib.hid S9.sl
      obtain ⟨A9, c9, rfl⟩ := S9.out.opn
      go_upto_region 11 with fail
      have hb := below_alloc' w7 (.cells #[.bool (!b), (.slice A9 L.length c9)] 26)
      have T9 := Lib.hid (Bk.new w7 #[.bool (!b), (.slice A9 L.length c9)] 26)
      replace S1 := Lib.hid (S1.out.below hb)
      replace S2 := Lib.hid (S2.out.below hb)
      replace T3 := Lib.hid (T3.out.below hb)
      replace T4 := Lib.hid (T4.out.below hb)
      replace S5 := Lib.hid (S5.out.below hb)
      replace T5 := Lib.hid (T5.out.below hb)
      replace S7 := Lib.hid (S7.out.below hb)
      replace T7 := Lib.hid (T7.out.below hb)
      replace S9 := Lib.hid (S9.out.below hb)
      replace A := Lib.hid (bthen A.out hb)
      clear hb
      generalize World.alloc w7 _ = w8 at *
      have T3s := T3.out.1
      have T3c := T3.out.2
      go_wp2_with fail
      clear T3s T3c
      refine (HCs.out _ _ S1.out).mono ?_
      rintro e w9 ⟨r11, rfl, S11, hb⟩
      replace S1 := Lib.hid (S1.out.below hb)
      replace S2 := Lib.hid (S2.out.below hb)
      replace T3 := Lib.hid (T3.out.below hb)
      replace T4 := Lib.hid (T4.out.below hb)
      replace S5 := Lib.hid (S5.out.below hb)
      replace T5 := Lib.hid (T5.out.below hb)
      replace S7 := Lib.hid (S7.out.below hb)
      replace T7 := Lib.hid (T7.out.below hb)
      replace S9 := Lib.hid (S9.out.below hb)
      replace T9 := Lib.hid (T9.out.below hb)
      replace A := Lib.hid (bthen A.out hb)
      clear hb
      replace S11 := Lib.hid S11.sl
      obtain ⟨A11, c11, rfl⟩ := S11.out.opn
      go_upto_region 12 with fail
      have hb := below_alloc' w9 (.cells #[.bool (!b), (.slice A11 L.length c11)] 26)
      have T11 := Lib.hid (Bk.new w9 #[.bool (!b), (.slice A11 L.length c11)] 26)
      replace S1 := Lib.hid (S1.out.below hb)
      replace S2 := Lib.hid (S2.out.below hb)
      replace T3 := Lib.hid (T3.out.below hb)
      replace T4 := Lib.hid (T4.out.below hb)
      replace S5 := Lib.hid (S5.out.below hb)
      replace T5 := Lib.hid (T5.out.below hb)
      replace S7 := Lib.hid (S7.out.below hb)
      replace T7 := Lib.hid (T7.out.below hb)
      replace S9 := Lib.hid (S9.out.below hb)
      replace T9 := Lib.hid (T9.out.below hb)
      replace S11 := Lib.hid (S11.out.below hb)
      replace A := Lib.hid (bthen A.out hb)
      clear hb
      generalize World.alloc w9 _ = w10 at *
      have T3s := T3.out.1
      have T3c := T3.out.2
      go_wp2_with fail
      clear T3s T3c
      refine (HBi.out _ _ S1.out).mono ?_
      rintro e w11 ⟨r13, rfl, S13, hb⟩
      replace S1 := Lib.hid (S1.out.below hb)
      replace S2 := Lib.hid (S2.out.below hb)
      replace T3 := Lib.hid (T3.out.below hb)
      replace T4 := Lib.hid (T4.out.below hb)
      replace S5 := Lib.hid (S5.out.below hb)
      replace T5 := Lib.hid (T5.out.below hb)
      replace S7 := Lib.hid (S7.out.below hb)
      replace T7 := Lib.hid (T7.out.below hb)
      replace S9 := Lib.hid (S9.out.below hb)
      replace T9 := Lib.hid (T9.out.below hb)
      replace S11 := Lib.hid (S11.out.below hb)
      replace T11 := Lib.hid (T11.out.below hb)
      replace A := Lib.hid (bthen A.out hb)
      clear hb
      replace S13 := Lib.hid S13.sl
      obtain ⟨A13, c13, rfl⟩ := S13.out.opn
      go_upto_region 13 with fail
      have hb := below_alloc' w11 (.cells #[.bool bb, (.slice A13 BL.length c13)] 26)
      have T13 := Lib.hid (Bk.new w11 #[.bool bb, (.slice A13 BL.length c13)] 26)
      replace S1 := Lib.hid (S1.out.below hb)
      replace S2 := Lib.hid (S2.out.below hb)
      replace T3 := Lib.hid (T3.out.below hb)
      replace T4 := Lib.hid (T4.out.below hb)
      replace S5 := Lib.hid (S5.out.below hb)
      replace T5 := Lib.hid (T5.out.below hb)
      replace S7 := Lib.hid (S7.out.below hb)
      replace T7 := Lib.hid (T7.out.below hb)
      replace S9 := Lib.hid (S9.out.below hb)
      replace T9 := Lib.hid (T9.out.below hb)
      replace S11 := Lib.hid (S11.out.below hb)
      replace T11 := Lib.hid (T11.out.below hb)
      replace S13 := Lib.hid (S13.out.below hb)
      replace A := Lib.hid (bthen A.out hb)
      clear hb
      generalize World.alloc w11 _ = w12 at *
      have T3s := T3.out.1
      have T3c := T3.out.2
      go_wp2_with fail
      clear T3s T3c
      refine (HBs.out _ _ S1.out).mono ?_
      rintro e w13 ⟨r15, rfl, S15, hb⟩
      replace S1 := Lib.hid (S1.out.below hb)
      replace S2 := Lib.hid (S2.out.below hb)
      replace T3 := Lib.hid (T3.out.below hb)
      replace T4 := Lib.hid (T4.out.below hb)
      replace S5 := Lib.hid (S5.out.below hb)
      replace T5 := Lib.hid (T5.out.below hb)
      replace S7 := Lib.hid (S7.out.below hb)
      replace T7 := Lib.hid (T7.out.below hb)
      replace S9 := Lib.hid (S9.out.below hb)
      replace T9 := Lib.hid (T9.out.below hb)
      replace S11 := Lib.hid (S11.out.below hb)
      replace T11 := Lib.hid (T11.out.below hb)
      replace S13 := Lib.hid (S13.out.below hb)
      replace T13 := Lib.hid (T13.out.below hb)
      replace A := Lib.hid (bthen A.out hb)
      clear hb
      replace S15 := Lib.hid S15.sl
      obtain ⟨A15, c15, rfl⟩ := S15.out.opn
      go_upto_region 14 with fail
      have hb := below_alloc' w13 (.cells #[.bool bb, (.slice A15 BL.length c15)] 26)
      have T15 := Lib.hid (Bk.new w13 #[.bool bb, (.slice A15 BL.length c15)] 26)
      replace S1 := Lib.hid (S1.out.below hb)
      replace S2 := Lib.hid (S2.out.below hb)
      replace T3 := Lib.hid (T3.out.below hb)
      replace T4 := Lib.hid (T4.out.below hb)
      replace S5 := Lib.hid (S5.out.below hb)
      replace T5 := Lib.hid (T5.out.below hb)
      replace S7 := Lib.hid (S7.out.below hb)
      replace T7 := Lib.hid (T7.out.below hb)
      replace S9 := Lib.hid (S9.out.below hb)
      replace T9 := Lib.hid (T9.out.below hb)
      replace S11 := Lib.hid (S11.out.below hb)
      replace T11 := Lib.hid (T11.out.below hb)
      replace S13 := Lib.hid (S13.out.below hb)
      replace T13 := Lib.hid (T13.out.below hb)
      replace S15 := Lib.hid (S15.out.below hb)
      replace A := Lib.hid (bthen A.out hb)
      clear hb
      generalize World.alloc w13 _ = w14 at *
      clear HCi HCs HBi HBs
      have T9s := T9.out.1
      have T9c := T9.out.2
      have T11s := T11.out.1
      have T11c := T11.out.2
      go_wp2_with fail
      clear T9s T9c T11s T11c
      refine (laws_likeTrace5 _ _ _ _ _ S9.out S11.out (by have := hL.out; omega)).mono ?_
      rintro e w15 ⟨rfl, hb⟩
      replace S1 := Lib.hid (S1.out.below hb)
      replace S2 := Lib.hid (S2.out.below hb)
      replace T3 := Lib.hid (T3.out.below hb)
      replace T4 := Lib.hid (T4.out.below hb)
      replace S5 := Lib.hid (S5.out.below hb)
      replace T5 := Lib.hid (T5.out.below hb)
      replace S7 := Lib.hid (S7.out.below hb)
      replace T7 := Lib.hid (T7.out.below hb)
      replace S9 := Lib.hid (S9.out.below hb)
      replace T9 := Lib.hid (T9.out.below hb)
      replace S11 := Lib.hid (S11.out.below hb)
      replace T11 := Lib.hid (T11.out.below hb)
      replace S13 := Lib.hid (S13.out.below hb)
      replace T13 := Lib.hid (T13.out.below hb)
      replace S15 := Lib.hid (S15.out.below hb)
      replace T15 := Lib.hid (T15.out.below hb)
      replace A := Lib.hid (bthen A.out hb)
      clear hb
      have T13s := T13.out.1
      have T13c := T13.out.2
      have T15s := T15.out.1
      have T15c := T15.out.2
      go_wp2_with fail
      clear T13s T13c T15s T15c
      refine (laws_likeTrace5 _ _ _ _ _ S13.out S15.out (by have := hBL.out; omega)).mono ?_
      rintro e w16 ⟨rfl, hb⟩
      replace S1 := Lib.hid (S1.out.below hb)
      replace S2 := Lib.hid (S2.out.below hb)
      replace T3 := Lib.hid (T3.out.below hb)
      replace T4 := Lib.hid (T4.out.below hb)
      replace S5 := Lib.hid (S5.out.below hb)
      replace T5 := Lib.hid (T5.out.below hb)
      replace S7 := Lib.hid (S7.out.below hb)
      replace T7 := Lib.hid (T7.out.below hb)
      replace S9 := Lib.hid (S9.out.below hb)
      replace T9 := Lib.hid (T9.out.below hb)
      replace S11 := Lib.hid (S11.out.below hb)
      replace T11 := Lib.hid (T11.out.below hb)
      replace S13 := Lib.hid (S13.out.below hb)
      replace T13 := Lib.hid (T13.out.below hb)
      replace S15 := Lib.hid (S15.out.below hb)
      replace T15 := Lib.hid (T15.out.below hb)
      replace A := Lib.hid (bthen A.out hb)
      clear hb
      go_upto_region 17 with fail
      go_loopw [17] (fun i wr => ∃ j : Nat, j ≤ 70 ∧ i = .int .i64 j ∧ Below w16.heap.size w16 wr) (fun i _ => 70 - (intOf i).toNat)
      case atStart => exact ⟨0, Nat.zero_le _, rfl, Below.refl _ _⟩
      case round =>
        obtain ⟨j, hj, rfl, hbl⟩ := hrel
        replace S1 := Lib.hid (S1.out.below hbl)
        replace S2 := Lib.hid (S2.out.below hbl)
        replace T3 := Lib.hid (T3.out.below hbl)
        replace T4 := Lib.hid (T4.out.below hbl)
        replace S5 := Lib.hid (S5.out.below hbl)
        replace T5 := Lib.hid (T5.out.below hbl)
        replace S7 := Lib.hid (S7.out.below hbl)
        replace T7 := Lib.hid (T7.out.below hbl)
        replace S9 := Lib.hid (S9.out.below hbl)
        replace T9 := Lib.hid (T9.out.below hbl)
        replace S11 := Lib.hid (S11.out.below hbl)
        replace T11 := Lib.hid (T11.out.below hbl)
        replace S13 := Lib.hid (S13.out.below hbl)
        replace T13 := Lib.hid (T13.out.below hbl)
        replace S15 := Lib.hid (S15.out.below hbl)
        replace T15 := Lib.hid (T15.out.below hbl)
        replace A := Lib.hid (bthen A.out hbl)
        have HBL := Lib.hid hbl
        clear hbl
        by_cases hlt : j < 70
        · have HX := Lib.hid (inT_meet b b' L L' hc.out hc'.out (j : Int) (by omega))
          have HN := Lib.hid (inT_not b L (j : Int))
          have Q1 := Lib.hid (fun bq hq => q_hasInt (v := _) (xs := L) (n := (j : Int)) (b := bq) hq wr S1.out (by have := hL.out; omega))
          have Q2 := Lib.hid (fun bq hq => q_hasInt (v := _) (xs := L') (n := (j : Int)) (b := bq) hq wr S2.out (by have := hL2.out; omega))
          have Q7 := Lib.hid (fun bq hq => q_hasInt2 (v := _) (xs := (mtR b L b' L')) (n := (j : Int)) (b := bq) hq wr S7.out (by have := hML.out; omega))
          have Q11 := Lib.hid (fun bq hq => q_hasInt2 (v := _) (xs := L) (n := (j : Int)) (b := bq) hq wr S11.out (by have := hL.out; omega))
          unfold inT at HX HN
          generalize hz1 : decide ((j : Int) ∈ L) = z1 at *
          generalize hz2 : decide ((j : Int) ∈ L') = z2 at *
          generalize hzm : decide ((j : Int) ∈ mtR b L b' L') = zm at *
          replace Q1 := Lib.hid (Q1.out _ rfl)
          replace Q2 := Lib.hid (Q2.out _ rfl)
          replace Q7 := Lib.hid (Q7.out _ rfl)
          replace Q11 := Lib.hid (Q11.out _ rfl)
          clear hz1 hz2 hzm
          obtain ⟨y1, q1⟩ : ∃ y, (z1 == b) = y := ⟨_, rfl⟩
          obtain ⟨y2, q2⟩ : ∃ y, (z2 == b') = y := ⟨_, rfl⟩
          have q3 := HX.out
          have q4 := HN.out
          rw [q1, q2] at q3
          rw [q1] at q4
          clear HX HN
          have T3c0 := T3.out.2 0
          have T3c1 := T3.out.2 1
          have T4c0 := T4.out.2 0
          have T4c1 := T4.out.2 1
          have T7c0 := T7.out.2 0
          have T7c1 := T7.out.2 1
          have T11c0 := T11.out.2 0
          have T11c1 := T11.out.2 1
          clear hj
          cases y1 <;> cases y2
          all_goals
            go_wp2
            go_quiet ((go_at_call 13; first | with_reducible exact Q1.out _ | with_reducible exact Q2.out _))
            go_wp2
            go_quiet ((go_at_call 13; first | with_reducible exact Q7.out _ _ | with_reducible exact Q11.out _ _))
            go_wp2
            go_roundw
            case rel => exact ⟨j + 1, by omega, by go_num, below_drewN HBL.out _⟩
            case measure => simp [intOf]; omega
        · obtain rfl : j = 70 := by omega
          clear hj hlt HBL hL2
          have HOK := Lib.hid (novar_ok _ (oF_novar b L))
          by_cases h40 : (outL b L).length ≤ 40
          · have HL40 := Lib.hid (Nat.le_trans (Nat.le_of_eq (congrArg List.length (oF_enc b L))) h40)
            obtain ⟨HFi, HFs⟩ := form_both b L hL.out hc.out h40
            replace HFi := Lib.hid HFi
            replace HFs := Lib.hid HFs
            have HO := Lib.hid (own_trace b L hc.out h40)
            replace h40 := Lib.hid h40
            have T3s := T3.out.1
            have T3c := T3.out.2
            go_wp2_with fail
            clear T3s T3c
            refine (HFi.out _ _ S1.out).mono ?_
            rintro e w17 ⟨r20, rfl, S20, hb⟩
            replace S1 := Lib.hid (S1.out.below hb)
            replace S2 := Lib.hid (S2.out.below hb)
            replace T3 := Lib.hid (T3.out.below hb)
            replace T4 := Lib.hid (T4.out.below hb)
            replace S5 := Lib.hid (S5.out.below hb)
            replace T5 := Lib.hid (T5.out.below hb)
            replace S7 := Lib.hid (S7.out.below hb)
            replace T7 := Lib.hid (T7.out.below hb)
            replace S9 := Lib.hid (S9.out.below hb)
            replace T9 := Lib.hid (T9.out.below hb)
            replace S11 := Lib.hid (S11.out.below hb)
            replace T11 := Lib.hid (T11.out.below hb)
            replace S13 := Lib.hid (S13.out.below hb)
            replace T13 := Lib.hid (T13.out.below hb)
            replace S15 := Lib.hid (S15.out.below hb)
            replace T15 := Lib.hid (T15.out.below hb)
            replace A := Lib.hid (bthen A.out hb)
            clear hb
            replace S20 := Lib.hid S20.sl
            have T3s := T3.out.1
            have T3c := T3.out.2
            go_wp2_with fail
            clear T3s T3c
            refine (HFs.out _ _ S1.out).mono ?_
            rintro e w18 ⟨r22, rfl, S22, hb⟩
            replace S1 := Lib.hid (S1.out.below hb)
            replace S2 := Lib.hid (S2.out.below hb)
            replace T3 := Lib.hid (T3.out.below hb)
            replace T4 := Lib.hid (T4.out.below hb)
            replace S5 := Lib.hid (S5.out.below hb)
            replace T5 := Lib.hid (T5.out.below hb)
            replace S7 := Lib.hid (S7.out.below hb)
            replace T7 := Lib.hid (T7.out.below hb)
            replace S9 := Lib.hid (S9.out.below hb)
            replace T9 := Lib.hid (T9.out.below hb)
            replace S11 := Lib.hid (S11.out.below hb)
            replace T11 := Lib.hid (T11.out.below hb)
            replace S13 := Lib.hid (S13.out.below hb)
            replace T13 := Lib.hid (T13.out.below hb)
            replace S15 := Lib.hid (S15.out.below hb)
            replace T15 := Lib.hid (T15.out.below hb)
            replace S20 := Lib.hid (S20.out.below hb)
            replace A := Lib.hid (bthen A.out hb)
            clear hb
            replace S22 := Lib.hid S22.sl
            clear HFi HFs
            go_wp2_with fail
            refine (laws_likeFormula5 _ _ _ _ S20.out S22.out (by have := HL40.out; omega)).mono ?_
            rintro e w19 ⟨rfl, hb⟩
            replace S1 := Lib.hid (S1.out.below hb)
            replace S2 := Lib.hid (S2.out.below hb)
            replace T3 := Lib.hid (T3.out.below hb)
            replace T4 := Lib.hid (T4.out.below hb)
            replace S5 := Lib.hid (S5.out.below hb)
            replace T5 := Lib.hid (T5.out.below hb)
            replace S7 := Lib.hid (S7.out.below hb)
            replace T7 := Lib.hid (T7.out.below hb)
            replace S9 := Lib.hid (S9.out.below hb)
            replace T9 := Lib.hid (T9.out.below hb)
            replace S11 := Lib.hid (S11.out.below hb)
            replace T11 := Lib.hid (T11.out.below hb)
            replace S13 := Lib.hid (S13.out.below hb)
            replace T13 := Lib.hid (T13.out.below hb)
            replace S15 := Lib.hid (S15.out.below hb)
            replace T15 := Lib.hid (T15.out.below hb)
            replace S20 := Lib.hid (S20.out.below hb)
            replace S22 := Lib.hid (S22.out.below hb)
            replace A := Lib.hid (bthen A.out hb)
            clear hb
            go_wp2_with fail
            refine (HO.out _ _ S22.out).mono ?_
            rintro e w20 ⟨r24, rfl, S24, hb⟩
            replace S1 := Lib.hid (S1.out.below hb)
            replace S2 := Lib.hid (S2.out.below hb)
            replace T3 := Lib.hid (T3.out.below hb)
            replace T4 := Lib.hid (T4.out.below hb)
            replace S5 := Lib.hid (S5.out.below hb)
            replace T5 := Lib.hid (T5.out.below hb)
            replace S7 := Lib.hid (S7.out.below hb)
            replace T7 := Lib.hid (T7.out.below hb)
            replace S9 := Lib.hid (S9.out.below hb)
            replace T9 := Lib.hid (T9.out.below hb)
            replace S11 := Lib.hid (S11.out.below hb)
            replace T11 := Lib.hid (T11.out.below hb)
            replace S13 := Lib.hid (S13.out.below hb)
            replace T13 := Lib.hid (T13.out.below hb)
            replace S15 := Lib.hid (S15.out.below hb)
            replace T15 := Lib.hid (T15.out.below hb)
            replace S20 := Lib.hid (S20.out.below hb)
            replace S22 := Lib.hid (S22.out.below hb)
            replace A := Lib.hid (bthen A.out hb)
            clear hb
            replace S24 := Lib.hid S24.sl
            obtain ⟨A24, c24, rfl⟩ := S24.out.opn
            clear HO
            go_upto_region 29 with fail
            have hb := below_alloc' w20 (.cells #[.bool b, (.slice A24 L.length c24)] 26)
            have T24 := Lib.hid (Bk.new w20 #[.bool b, (.slice A24 L.length c24)] 26)
            replace S1 := Lib.hid (S1.out.below hb)
            replace S2 := Lib.hid (S2.out.below hb)
            replace T3 := Lib.hid (T3.out.below hb)
            replace T4 := Lib.hid (T4.out.below hb)
            replace S5 := Lib.hid (S5.out.below hb)
            replace T5 := Lib.hid (T5.out.below hb)
            replace S7 := Lib.hid (S7.out.below hb)
            replace T7 := Lib.hid (T7.out.below hb)
            replace S9 := Lib.hid (S9.out.below hb)
            replace T9 := Lib.hid (T9.out.below hb)
            replace S11 := Lib.hid (S11.out.below hb)
            replace T11 := Lib.hid (T11.out.below hb)
            replace S13 := Lib.hid (S13.out.below hb)
            replace T13 := Lib.hid (T13.out.below hb)
            replace S15 := Lib.hid (S15.out.below hb)
            replace T15 := Lib.hid (T15.out.below hb)
            replace S20 := Lib.hid (S20.out.below hb)
            replace S22 := Lib.hid (S22.out.below hb)
            replace S24 := Lib.hid (S24.out.below hb)
            replace A := Lib.hid (bthen A.out hb)
            clear hb
            generalize World.alloc w20 _ = w21 at *
            have T24s := T24.out.1
            have T24c := T24.out.2
            have T3s := T3.out.1
            have T3c := T3.out.2
            go_wp2_with fail
            clear T24s T24c T3s T3c
            refine (laws_likeTrace5 _ _ _ _ _ S24.out S1.out (by have := hL.out; omega)).mono ?_
            rintro e w22 ⟨rfl, hb⟩
            replace S1 := Lib.hid (S1.out.below hb)
            replace S2 := Lib.hid (S2.out.below hb)
            replace T3 := Lib.hid (T3.out.below hb)
            replace T4 := Lib.hid (T4.out.below hb)
            replace S5 := Lib.hid (S5.out.below hb)
            replace T5 := Lib.hid (T5.out.below hb)
            replace S7 := Lib.hid (S7.out.below hb)
            replace T7 := Lib.hid (T7.out.below hb)
            replace S9 := Lib.hid (S9.out.below hb)
            replace T9 := Lib.hid (T9.out.below hb)
            replace S11 := Lib.hid (S11.out.below hb)
            replace T11 := Lib.hid (T11.out.below hb)
            replace S13 := Lib.hid (S13.out.below hb)
            replace T13 := Lib.hid (T13.out.below hb)
            replace S15 := Lib.hid (S15.out.below hb)
            replace T15 := Lib.hid (T15.out.below hb)
            replace S20 := Lib.hid (S20.out.below hb)
            replace S22 := Lib.hid (S22.out.below hb)
            replace S24 := Lib.hid (S24.out.below hb)
            replace T24 := Lib.hid (T24.out.below hb)
            replace A := Lib.hid (bthen A.out hb)
            clear hb
            by_cases h42 : (enc (.un .box (oF b L))).length ≤ 40
            · have HP := Lib.hid (prefix_ok _ HOK.out h42)
              go_wp2_with fail
              refine (HP.out _ _ S22.out).mono ?_
              rintro e w23 ⟨r26, rfl, S26, hb⟩
              replace S1 := Lib.hid (S1.out.below hb)
              replace S2 := Lib.hid (S2.out.below hb)
              replace T3 := Lib.hid (T3.out.below hb)
              replace T4 := Lib.hid (T4.out.below hb)
              replace S5 := Lib.hid (S5.out.below hb)
              replace T5 := Lib.hid (T5.out.below hb)
              replace S7 := Lib.hid (S7.out.below hb)
              replace T7 := Lib.hid (T7.out.below hb)
              replace S9 := Lib.hid (S9.out.below hb)
              replace T9 := Lib.hid (T9.out.below hb)
              replace S11 := Lib.hid (S11.out.below hb)
              replace T11 := Lib.hid (T11.out.below hb)
              replace S13 := Lib.hid (S13.out.below hb)
              replace T13 := Lib.hid (T13.out.below hb)
              replace S15 := Lib.hid (S15.out.below hb)
              replace T15 := Lib.hid (T15.out.below hb)
              replace S20 := Lib.hid (S20.out.below hb)
              replace S22 := Lib.hid (S22.out.below hb)
              replace S24 := Lib.hid (S24.out.below hb)
              replace T24 := Lib.hid (T24.out.below hb)
              replace A := Lib.hid (bthen A.out hb)
              clear hb
              replace S26 := Lib.hid S26.sl
              clear HP
              by_cases hk0 : kb = 0
              · have HBT := Lib.hid (box_trace b L bb BL h42 (hkb.out hk0 h40.out).1 (hkb.out hk0 h40.out).2)
                subst hk0
                clear hkb h42
                go_wp2_with fail
                refine (HBT.out _ _ S26.out).mono ?_
                rintro e w24 ⟨r28, rfl, S28, hb⟩
                replace S1 := Lib.hid (S1.out.below hb)
                replace S2 := Lib.hid (S2.out.below hb)
                replace T3 := Lib.hid (T3.out.below hb)
                replace T4 := Lib.hid (T4.out.below hb)
                replace S5 := Lib.hid (S5.out.below hb)
                replace T5 := Lib.hid (T5.out.below hb)
                replace S7 := Lib.hid (S7.out.below hb)
                replace T7 := Lib.hid (T7.out.below hb)
                replace S9 := Lib.hid (S9.out.below hb)
                replace T9 := Lib.hid (T9.out.below hb)
                replace S11 := Lib.hid (S11.out.below hb)
                replace T11 := Lib.hid (T11.out.below hb)
                replace S13 := Lib.hid (S13.out.below hb)
                replace T13 := Lib.hid (T13.out.below hb)
                replace S15 := Lib.hid (S15.out.below hb)
                replace T15 := Lib.hid (T15.out.below hb)
                replace S20 := Lib.hid (S20.out.below hb)
                replace S22 := Lib.hid (S22.out.below hb)
                replace S24 := Lib.hid (S24.out.below hb)
                replace T24 := Lib.hid (T24.out.below hb)
                replace S26 := Lib.hid (S26.out.below hb)
                replace A := Lib.hid (bthen A.out hb)
                clear hb
                replace S28 := Lib.hid S28.sl
                obtain ⟨A28, c28, rfl⟩ := S28.out.opn
                go_upto_region 35 with fail
                have hb := below_alloc' w24 (.cells #[.bool bb, (.slice A28 BL.length c28)] 26)
                have T28 := Lib.hid (Bk.new w24 #[.bool bb, (.slice A28 BL.length c28)] 26)
                replace S1 := Lib.hid (S1.out.below hb)
                replace S2 := Lib.hid (S2.out.below hb)
                replace T3 := Lib.hid (T3.out.below hb)
                replace T4 := Lib.hid (T4.out.below hb)
                replace S5 := Lib.hid (S5.out.below hb)
                replace T5 := Lib.hid (T5.out.below hb)
                replace S7 := Lib.hid (S7.out.below hb)
                replace T7 := Lib.hid (T7.out.below hb)
                replace S9 := Lib.hid (S9.out.below hb)
                replace T9 := Lib.hid (T9.out.below hb)
                replace S11 := Lib.hid (S11.out.below hb)
                replace T11 := Lib.hid (T11.out.below hb)
                replace S13 := Lib.hid (S13.out.below hb)
                replace T13 := Lib.hid (T13.out.below hb)
                replace S15 := Lib.hid (S15.out.below hb)
                replace T15 := Lib.hid (T15.out.below hb)
                replace S20 := Lib.hid (S20.out.below hb)
                replace S22 := Lib.hid (S22.out.below hb)
                replace S24 := Lib.hid (S24.out.below hb)
                replace T24 := Lib.hid (T24.out.below hb)
                replace S26 := Lib.hid (S26.out.below hb)
                replace S28 := Lib.hid (S28.out.below hb)
                replace A := Lib.hid (bthen A.out hb)
                clear hb
                generalize World.alloc w24 _ = w25 at *
                have T28s := T28.out.1
                have T28c := T28.out.2
                have T15s := T15.out.1
                have T15c := T15.out.2
                go_wp2_with fail
                clear T28s T28c T15s T15c
                refine (laws_likeTrace5 _ _ _ _ _ S28.out S15.out (by have := hBL.out; omega)).mono ?_
                rintro e w26 ⟨rfl, hb⟩
                replace S1 := Lib.hid (S1.out.below hb)
                replace S2 := Lib.hid (S2.out.below hb)
                replace T3 := Lib.hid (T3.out.below hb)
                replace T4 := Lib.hid (T4.out.below hb)
                replace S5 := Lib.hid (S5.out.below hb)
                replace T5 := Lib.hid (T5.out.below hb)
                replace S7 := Lib.hid (S7.out.below hb)
                replace T7 := Lib.hid (T7.out.below hb)
                replace S9 := Lib.hid (S9.out.below hb)
                replace T9 := Lib.hid (T9.out.below hb)
                replace S11 := Lib.hid (S11.out.below hb)
                replace T11 := Lib.hid (T11.out.below hb)
                replace S13 := Lib.hid (S13.out.below hb)
                replace T13 := Lib.hid (T13.out.below hb)
                replace S15 := Lib.hid (S15.out.below hb)
                replace T15 := Lib.hid (T15.out.below hb)
                replace S20 := Lib.hid (S20.out.below hb)
                replace S22 := Lib.hid (S22.out.below hb)
                replace S24 := Lib.hid (S24.out.below hb)
                replace T24 := Lib.hid (T24.out.below hb)
                replace S26 := Lib.hid (S26.out.below hb)
                replace S28 := Lib.hid (S28.out.below hb)
                replace T28 := Lib.hid (T28.out.below hb)
                replace A := Lib.hid (bthen A.out hb)
                clear hb
                go_wp2
                go_ret
                exact ⟨rfl, A.out⟩
              · have hk1 : (kb != 0) = true := by simpa using hk0
                clear hkb hk0 h42
                go_wp2
                go_ret
                exact ⟨rfl, A.out⟩
            · have HP := Lib.hid (prefix_long _ HOK.out HL40.out h42)
              clear h42
              go_wp2_with fail
              refine (HP.out _ _ S22.out).mono ?_
              rintro e w99 ⟨r26, rfl, hb⟩
              replace A := Lib.hid (bthen A.out hb)
              clear hb
              go_wp2
              go_ret
              exact ⟨rfl, A.out⟩
          · obtain ⟨HFi, HFs⟩ := form_long b L hL.out hc.out h40
            replace HFi := Lib.hid HFi
            replace HFs := Lib.hid HFs
            clear h40
            have T3s := T3.out.1
            have T3c := T3.out.2
            go_wp2_with fail
            clear T3s T3c
            refine (HFi.out _ _ S1.out).mono ?_
            rintro e w27 ⟨r20, rfl, S20, hb⟩
            replace S1 := Lib.hid (S1.out.below hb)
            replace S2 := Lib.hid (S2.out.below hb)
            replace T3 := Lib.hid (T3.out.below hb)
            replace T4 := Lib.hid (T4.out.below hb)
            replace S5 := Lib.hid (S5.out.below hb)
            replace T5 := Lib.hid (T5.out.below hb)
            replace S7 := Lib.hid (S7.out.below hb)
            replace T7 := Lib.hid (T7.out.below hb)
            replace S9 := Lib.hid (S9.out.below hb)
            replace T9 := Lib.hid (T9.out.below hb)
            replace S11 := Lib.hid (S11.out.below hb)
            replace T11 := Lib.hid (T11.out.below hb)
            replace S13 := Lib.hid (S13.out.below hb)
            replace T13 := Lib.hid (T13.out.below hb)
            replace S15 := Lib.hid (S15.out.below hb)
            replace T15 := Lib.hid (T15.out.below hb)
            replace A := Lib.hid (bthen A.out hb)
            clear hb
            replace S20 := Lib.hid S20.sl
            have T3s := T3.out.1
            have T3c := T3.out.2
            go_wp2_with fail
            clear T3s T3c
            refine (HFs.out _ _ S1.out).mono ?_
            rintro e w28 ⟨r22, rfl, S22, hb⟩
            replace S1 := Lib.hid (S1.out.below hb)
            replace S2 := Lib.hid (S2.out.below hb)
            replace T3 := Lib.hid (T3.out.below hb)
            replace T4 := Lib.hid (T4.out.below hb)
            replace S5 := Lib.hid (S5.out.below hb)
            replace T5 := Lib.hid (T5.out.below hb)
            replace S7 := Lib.hid (S7.out.below hb)
            replace T7 := Lib.hid (T7.out.below hb)
            replace S9 := Lib.hid (S9.out.below hb)
            replace T9 := Lib.hid (T9.out.below hb)
            replace S11 := Lib.hid (S11.out.below hb)
            replace T11 := Lib.hid (T11.out.below hb)
            replace S13 := Lib.hid (S13.out.below hb)
            replace T13 := Lib.hid (T13.out.below hb)
            replace S15 := Lib.hid (S15.out.below hb)
            replace T15 := Lib.hid (T15.out.below hb)
            replace S20 := Lib.hid (S20.out.below hb)
            replace A := Lib.hid (bthen A.out hb)
            clear hb
            replace S22 := Lib.hid S22.sl
            clear HFi HFs
            go_wp2_with fail
            refine (laws_likeFormula5 _ _ _ _ S20.out S22.out (by simp)).mono ?_
            rintro e w29 ⟨rfl, hb⟩
            replace S1 := Lib.hid (S1.out.below hb)
            replace S2 := Lib.hid (S2.out.below hb)
            replace T3 := Lib.hid (T3.out.below hb)
            replace T4 := Lib.hid (T4.out.below hb)
            replace S5 := Lib.hid (S5.out.below hb)
            replace T5 := Lib.hid (T5.out.below hb)
            replace S7 := Lib.hid (S7.out.below hb)
            replace T7 := Lib.hid (T7.out.below hb)
            replace S9 := Lib.hid (S9.out.below hb)
            replace T9 := Lib.hid (T9.out.below hb)
            replace S11 := Lib.hid (S11.out.below hb)
            replace T11 := Lib.hid (T11.out.below hb)
            replace S13 := Lib.hid (S13.out.below hb)
            replace T13 := Lib.hid (T13.out.below hb)
            replace S15 := Lib.hid (S15.out.below hb)
            replace T15 := Lib.hid (T15.out.below hb)
            replace S20 := Lib.hid (S20.out.below hb)
            replace S22 := Lib.hid (S22.out.below hb)
            replace A := Lib.hid (bthen A.out hb)
            clear hb
            go_wp2
            go_ret
            exact ⟨rfl, A.out⟩
end Go.Proofs.YtjpgiamblbgkpaaGreat

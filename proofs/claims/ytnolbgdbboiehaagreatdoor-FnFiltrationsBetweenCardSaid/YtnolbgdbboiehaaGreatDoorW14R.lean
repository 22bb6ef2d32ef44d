/- The walk of FnFiltrationsBetween, written by program (gen14R.py). -/
import Derived.Test.YtnolbgdbboiehaaGreatDoorM14R
import Derived.Test.YtnolbgdbboiehaaGreatDoorDB
import Derived.Test.YtnolbgdbboiehaaGreatDoorLK
import Derived.Test.YtnolbgdbboiehaaGreatDoorAZ
import Derived.Test.YtnolbgdbboiehaaGreatDoorAY
namespace Go.Proofs.YtnolbgdbboiehaaGreatDoor
open Go.RowKit
set_option linter.unusedVariables false
set_option linter.unusedSimpArgs false
set_option maxHeartbeats 4000000 in
set_option maxRecDepth 100000 in
theorem final_FiltrationsBetween (v : Value) (xs : List (Fin 256)) (w : World) (h : Sl cY w v xs) :
    Calls Tryz.prog 3 #[v] w fun e w' => e = .returned (.bool true) ∧ Below w.heap.size w w' := by
  have A : Hid (Below w.heap.size w w) := Lib.hid (Below.refl _ _)
  go_enter Tryz.func3, Tryz.ntmps3
  replace h := Lib.hid h
  by_cases hbig : 4096 < xs.length
  · have HC := Lib.hid (decide_eq_true hbig ▸ laws_big v xs w h.out)
    clear hbig
    go_wp2_with fail
    refine HC.out.mono ?_
    rintro e w1 ⟨rfl, rfl⟩
    go_wp2
    go_ret
    exact ⟨rfl, A.out⟩
  · have HC := Lib.hid (decide_eq_false hbig ▸ laws_big v xs w h.out)
    have HD := Lib.hid (spec_DrawAllFiltrations v xs w h.out (by omega))
    clear hbig
    go_wp2_with fail
    refine HC.out.mono ?_
    rintro e w1 ⟨rfl, rfl⟩
    clear HC
    go_wp2_with fail
    refine (HD.out).mono ?_
    rintro e w1 ⟨n, u1, u2, u3, L1, L2, L3, rfl, hL1, hL2, hL3, s1, s2, s3, hb⟩
    replace A := Lib.hid (bthen A.out hb)
    clear hb
    clear HD h
    by_cases hok : mdOk n L1 L2 = true ∧ isF L3 = true
    · obtain ⟨hok1, hok2⟩ := hok
      obtain ⟨ns, us, rfl, rfl, rfl, hr, hl, hb⟩ := mdOk_iff hok1
      obtain ⟨f, hf1, rfl, hf2⟩ := (isF_iff _).1 hok2
      have h1 : MdN ns us := ⟨hr, hl, hb⟩
      have H1 := Lib.hid h1
      have HOK := Lib.hid hf1
      have HL := Lib.hid hf2
      have HMK := Lib.hid hok1
      have HFK := Lib.hid hok2
      obtain ⟨A1, c1, rfl⟩ := s1.opn
      obtain ⟨A2, c2, rfl⟩ := s2.opn
      obtain ⟨A3, c3, rfl⟩ := s3.opn
      rw [li_length] at s1
      rw [li_length, hl] at s2
      rw [li_length, li_length, hl]
      have HM : Hid (Mdl w1 (.slice A1 ns.length c1) (.slice A2 6 c2) ns us) := Lib.hid ⟨s1, s2⟩
      have HF := Lib.hid s3
      have HN8 : Hid (acn ns us f ≤ 8) := Lib.hid (Nat.le_trans (acn_le ns us f) hr.1)
      clear s1 s2 s3 hr hl hb h1 hf1 hf2 hok1 hok2 hL1 hL2 hL3
      obtain ⟨FS, kA, cN, cC, eF, eA, eN, eC, hFS, hin, hk⟩ := afl_cases ns us f H1.out
      have HAi := Lib.hid (fun W hm hf => impl_AllFiltrations_ok ns us f A1 A2 c1 c2 (.slice A3 (enc f).length c3) W hm H1.out hf HOK.out HL.out HMK.out HFK.out)
      have HAs := Lib.hid (fun W hm hf => spec_AllFiltrations_ok ns us f A1 A2 c1 c2 (.slice A3 (enc f).length c3) W hm H1.out hf HOK.out HL.out HMK.out HFK.out)
      have HCi := Lib.hid (fun W hm hf => impl_CountFiltrations_ok ns us f A1 A2 c1 c2 (.slice A3 (enc f).length c3) W hm H1.out hf HOK.out HL.out HMK.out HFK.out)
      have HCs := Lib.hid (fun W hm hf => spec_CountFiltrations_ok ns us f A1 A2 c1 c2 (.slice A3 (enc f).length c3) W hm H1.out hf HOK.out HL.out HMK.out HFK.out)
      rw [eF, eA] at HAi HAs
      rw [eN, eC] at HCi HCs
      clear eF eA eN eC
      replace hFS := Lib.hid hFS
      replace hin := Lib.hid hin
      replace hk := Lib.hid hk
      go_upto_region 4 with fail
      have hb := below_alloc' w1 (.cells #[.int .i64 (ns.length : Int), .slice A1 ns.length c1, .slice A2 6 c2] 28)
      have T3 := Lib.hid (Bk.new w1 #[.int .i64 (ns.length : Int), .slice A1 ns.length c1, .slice A2 6 c2] 28)
      replace HM := Lib.hid (HM.out.below hb)
      replace HF := Lib.hid (HF.out.below hb)
      replace A := Lib.hid (bthen A.out hb)
      clear hb
      generalize World.alloc w1 _ = w2 at *
      have T3s := T3.out.1
      have T3c := T3.out.2
      go_wp2_with fail
      clear T3s T3c
      refine (HAi.out _ HM.out HF.out).mono ?_
      rintro e w3 ⟨r5, rfl, S5, hb⟩
      replace HM := Lib.hid (HM.out.below hb)
      replace HF := Lib.hid (HF.out.below hb)
      replace T3 := Lib.hid (T3.out.below hb)
      replace A := Lib.hid (bthen A.out hb)
      clear hb
      replace S5 := Lib.hid S5.sl
      obtain ⟨A5, c5, rfl⟩ := S5.out.opn
      have T3s := T3.out.1
      have T3c := T3.out.2
      go_wp2_with fail
      clear T3s T3c
      refine (HAs.out _ HM.out HF.out).mono ?_
      rintro e w4 ⟨r7, rfl, S7, hb⟩
      replace HM := Lib.hid (HM.out.below hb)
      replace HF := Lib.hid (HF.out.below hb)
      replace T3 := Lib.hid (T3.out.below hb)
      replace S5 := Lib.hid (S5.out.below hb)
      replace A := Lib.hid (bthen A.out hb)
      clear hb
      replace S7 := Lib.hid S7.sl
      obtain ⟨A7, c7, rfl⟩ := S7.out.opn
      have T3s := T3.out.1
      have T3c := T3.out.2
      go_wp2_with fail
      clear T3s T3c
      refine (HCi.out _ HM.out HF.out).mono ?_
      rintro e w5 ⟨rfl, hb⟩
      replace HM := Lib.hid (HM.out.below hb)
      replace HF := Lib.hid (HF.out.below hb)
      replace T3 := Lib.hid (T3.out.below hb)
      replace S5 := Lib.hid (S5.out.below hb)
      replace S7 := Lib.hid (S7.out.below hb)
      replace A := Lib.hid (bthen A.out hb)
      clear hb
      have T3s := T3.out.1
      have T3c := T3.out.2
      go_wp2_with fail
      clear T3s T3c
      refine (HCs.out _ HM.out HF.out).mono ?_
      rintro e w6 ⟨rfl, hb⟩
      replace HM := Lib.hid (HM.out.below hb)
      replace HF := Lib.hid (HF.out.below hb)
      replace T3 := Lib.hid (T3.out.below hb)
      replace S5 := Lib.hid (S5.out.below hb)
      replace S7 := Lib.hid (S7.out.below hb)
      replace A := Lib.hid (bthen A.out hb)
      clear hb
      clear HAi HAs HCi HCs
      obtain ⟨an, han⟩ : ∃ a, acn ns us f = a := ⟨_, rfl⟩
      obtain ⟨lo, hlo⟩ : ∃ l, lst ns us f = l := ⟨_, rfl⟩
      obtain ⟨hi, hhi⟩ : ∃ l, gre ns us f = l := ⟨_, rfl⟩
      have HLL : Hid (lo.length = an ∧ hi.length = an) := Lib.hid ⟨by rw [← hlo, ← han, lst_length], by rw [← hhi, ← han, gre_length]⟩
      have HLG : Hid (∀ i, andnot (lo.getD i 0) (hi.getD i 0) = 0 ∧ lo.getD i 0 < 256 ∧ hi.getD i 0 < 256) := Lib.hid (fun i => by rw [← hlo, ← hhi]; exact ⟨lst_gre ns us f i, Nat.lt_of_lt_of_le (getD_lt (lst_lt ns us f) i) (two_pow_256 HN8.out), Nat.lt_of_lt_of_le (getD_lt (gre_lt ns us f) i) (two_pow_256 HN8.out)⟩)
      have HLi := Lib.hid (fun W hm hf => impl_LeastFiltration_ok ns us f A1 A2 c1 c2 (.slice A3 (enc f).length c3) W hm H1.out hf HOK.out HL.out HMK.out HFK.out)
      have HGi := Lib.hid (fun W hm hf => impl_GreatestFiltration_ok ns us f A1 A2 c1 c2 (.slice A3 (enc f).length c3) W hm H1.out hf HOK.out HL.out HMK.out HFK.out)
      have HLs := Lib.hid (fun W hm hf => spec_LeastFiltration_ok ns us f A1 A2 c1 c2 (.slice A3 (enc f).length c3) W hm H1.out hf HOK.out HL.out HMK.out HFK.out)
      have HGs := Lib.hid (fun W hm hf => spec_GreatestFiltration_ok ns us f A1 A2 c1 c2 (.slice A3 (enc f).length c3) W hm H1.out hf HOK.out HL.out HMK.out HFK.out)
      rw [han, hlo] at HLi HLs
      rw [han, hhi] at HGi HGs
      rw [han] at HN8
      rw [han] at hin
      clear hlo hhi
      have T3s := T3.out.1
      have T3c := T3.out.2
      go_wp2_with fail
      clear T3s T3c
      refine (HLi.out _ HM.out HF.out).mono ?_
      rintro e w7 ⟨r13, rfl, S13, hb⟩
      replace HM := Lib.hid (HM.out.below hb)
      replace HF := Lib.hid (HF.out.below hb)
      replace T3 := Lib.hid (T3.out.below hb)
      replace S5 := Lib.hid (S5.out.below hb)
      replace S7 := Lib.hid (S7.out.below hb)
      replace A := Lib.hid (bthen A.out hb)
      clear hb
      replace S13 := Lib.hid S13.sl
      obtain ⟨A13, c13, rfl⟩ := S13.out.opn
      rw [li_length, HLL.out.1] at S13 ⊢
      go_upto_region 9 with fail
      have hb := below_alloc' w7 (.cells #[.int .i64 (an : Int), .slice A13 an c13] 26)
      have T13 := Lib.hid (Bk.new w7 #[.int .i64 (an : Int), .slice A13 an c13] 26)
      replace HM := Lib.hid (HM.out.below hb)
      replace HF := Lib.hid (HF.out.below hb)
      replace T3 := Lib.hid (T3.out.below hb)
      replace S5 := Lib.hid (S5.out.below hb)
      replace S7 := Lib.hid (S7.out.below hb)
      replace S13 := Lib.hid (S13.out.below hb)
      replace A := Lib.hid (bthen A.out hb)
      clear hb
      generalize World.alloc w7 _ = w8 at *
      have T3s := T3.out.1
      have T3c := T3.out.2
      go_wp2_with fail
      clear T3s T3c
      refine (HGi.out _ HM.out HF.out).mono ?_
      rintro e w9 ⟨r15, rfl, S15, hb⟩
      replace HM := Lib.hid (HM.out.below hb)
      replace HF := Lib.hid (HF.out.below hb)
      replace T3 := Lib.hid (T3.out.below hb)
      replace S5 := Lib.hid (S5.out.below hb)
      replace S7 := Lib.hid (S7.out.below hb)
      replace S13 := Lib.hid (S13.out.below hb)
      replace T13 := Lib.hid (T13.out.below hb)
      replace A := Lib.hid (bthen A.out hb)
      clear hb
      replace S15 := Lib.hid S15.sl
      obtain ⟨A15, c15, rfl⟩ := S15.out.opn
      rw [li_length, HLL.out.2] at S15 ⊢
      go_upto_region 10 with fail
      have hb := below_alloc' w9 (.cells #[.int .i64 (an : Int), .slice A15 an c15] 26)
      have T15 := Lib.hid (Bk.new w9 #[.int .i64 (an : Int), .slice A15 an c15] 26)
      replace HM := Lib.hid (HM.out.below hb)
      replace HF := Lib.hid (HF.out.below hb)
      replace T3 := Lib.hid (T3.out.below hb)
      replace S5 := Lib.hid (S5.out.below hb)
      replace S7 := Lib.hid (S7.out.below hb)
      replace S13 := Lib.hid (S13.out.below hb)
      replace T13 := Lib.hid (T13.out.below hb)
      replace S15 := Lib.hid (S15.out.below hb)
      replace A := Lib.hid (bthen A.out hb)
      clear hb
      generalize World.alloc w9 _ = w10 at *
      have T3s := T3.out.1
      have T3c := T3.out.2
      go_wp2_with fail
      clear T3s T3c
      refine (HLs.out _ HM.out HF.out).mono ?_
      rintro e w11 ⟨r17, rfl, S17, hb⟩
      replace HM := Lib.hid (HM.out.below hb)
      replace HF := Lib.hid (HF.out.below hb)
      replace T3 := Lib.hid (T3.out.below hb)
      replace S5 := Lib.hid (S5.out.below hb)
      replace S7 := Lib.hid (S7.out.below hb)
      replace S13 := Lib.hid (S13.out.below hb)
      replace T13 := Lib.hid (T13.out.below hb)
      replace S15 := Lib.hid (S15.out.below hb)
      replace T15 := Lib.hid (T15.out.below hb)
      replace A := Lib.hid (bthen A.out hb)
      clear hb
      replace S17 := Lib.hid S17.sl
      obtain ⟨A17, c17, rfl⟩ := S17.out.opn
      rw [li_length, HLL.out.1] at S17 ⊢
      go_upto_region 11 with fail
      have hb := below_alloc' w11 (.cells #[.int .i64 (an : Int), .slice A17 an c17] 26)
      have T17 := Lib.hid (Bk.new w11 #[.int .i64 (an : Int), .slice A17 an c17] 26)
      replace HM := Lib.hid (HM.out.below hb)
      replace HF := Lib.hid (HF.out.below hb)
      replace T3 := Lib.hid (T3.out.below hb)
      replace S5 := Lib.hid (S5.out.below hb)
      replace S7 := Lib.hid (S7.out.below hb)
      replace S13 := Lib.hid (S13.out.below hb)
      replace T13 := Lib.hid (T13.out.below hb)
      replace S15 := Lib.hid (S15.out.below hb)
      replace T15 := Lib.hid (T15.out.below hb)
      replace S17 := Lib.hid (S17.out.below hb)
      replace A := Lib.hid (bthen A.out hb)
      clear hb
      generalize World.alloc w11 _ = w12 at *
      have T3s := T3.out.1
      have T3c := T3.out.2
      go_wp2_with fail
      clear T3s T3c
      refine (HGs.out _ HM.out HF.out).mono ?_
      rintro e w13 ⟨r19, rfl, S19, hb⟩
      replace HM := Lib.hid (HM.out.below hb)
      replace HF := Lib.hid (HF.out.below hb)
      replace T3 := Lib.hid (T3.out.below hb)
      replace S5 := Lib.hid (S5.out.below hb)
      replace S7 := Lib.hid (S7.out.below hb)
      replace S13 := Lib.hid (S13.out.below hb)
      replace T13 := Lib.hid (T13.out.below hb)
      replace S15 := Lib.hid (S15.out.below hb)
      replace T15 := Lib.hid (T15.out.below hb)
      replace S17 := Lib.hid (S17.out.below hb)
      replace T17 := Lib.hid (T17.out.below hb)
      replace A := Lib.hid (bthen A.out hb)
      clear hb
      replace S19 := Lib.hid S19.sl
      obtain ⟨A19, c19, rfl⟩ := S19.out.opn
      rw [li_length, HLL.out.2] at S19 ⊢
      go_upto_region 12 with fail
      have hb := below_alloc' w13 (.cells #[.int .i64 (an : Int), .slice A19 an c19] 26)
      have T19 := Lib.hid (Bk.new w13 #[.int .i64 (an : Int), .slice A19 an c19] 26)
      replace HM := Lib.hid (HM.out.below hb)
      replace HF := Lib.hid (HF.out.below hb)
      replace T3 := Lib.hid (T3.out.below hb)
      replace S5 := Lib.hid (S5.out.below hb)
      replace S7 := Lib.hid (S7.out.below hb)
      replace S13 := Lib.hid (S13.out.below hb)
      replace T13 := Lib.hid (T13.out.below hb)
      replace S15 := Lib.hid (S15.out.below hb)
      replace T15 := Lib.hid (T15.out.below hb)
      replace S17 := Lib.hid (S17.out.below hb)
      replace T17 := Lib.hid (T17.out.below hb)
      replace S19 := Lib.hid (S19.out.below hb)
      replace A := Lib.hid (bthen A.out hb)
      clear hb
      generalize World.alloc w13 _ = w14 at *
      clear HLi HGi HLs HGs
      have e1 : (li lo).length = an := by rw [li_length]; exact HLL.out.1
      have T13s := T13.out.1
      have T13c := T13.out.2
      have T17s := T17.out.1
      have T17c := T17.out.2
      go_wp2_with fail
      clear T13s T13c T17s T17c
      refine (laws_likeFrame5 (an : Int) _ _ (li lo) _ S13.out S17.out (by rw [e1]; have := HN8.out; omega)).mono ?_
      rintro e w15 ⟨rfl, hb⟩
      replace HM := Lib.hid (HM.out.below hb)
      replace HF := Lib.hid (HF.out.below hb)
      replace T3 := Lib.hid (T3.out.below hb)
      replace S5 := Lib.hid (S5.out.below hb)
      replace S7 := Lib.hid (S7.out.below hb)
      replace S13 := Lib.hid (S13.out.below hb)
      replace T13 := Lib.hid (T13.out.below hb)
      replace S15 := Lib.hid (S15.out.below hb)
      replace T15 := Lib.hid (T15.out.below hb)
      replace S17 := Lib.hid (S17.out.below hb)
      replace T17 := Lib.hid (T17.out.below hb)
      replace S19 := Lib.hid (S19.out.below hb)
      replace T19 := Lib.hid (T19.out.below hb)
      replace A := Lib.hid (bthen A.out hb)
      clear hb
      clear e1
      have e1 : (li hi).length = an := by rw [li_length]; exact HLL.out.2
      have T15s := T15.out.1
      have T15c := T15.out.2
      have T19s := T19.out.1
      have T19c := T19.out.2
      go_wp2_with fail
      clear T15s T15c T19s T19c
      refine (laws_likeFrame5 (an : Int) _ _ (li hi) _ S15.out S19.out (by rw [e1]; have := HN8.out; omega)).mono ?_
      rintro e w16 ⟨rfl, hb⟩
      replace HM := Lib.hid (HM.out.below hb)
      replace HF := Lib.hid (HF.out.below hb)
      replace T3 := Lib.hid (T3.out.below hb)
      replace S5 := Lib.hid (S5.out.below hb)
      replace S7 := Lib.hid (S7.out.below hb)
      replace S13 := Lib.hid (S13.out.below hb)
      replace T13 := Lib.hid (T13.out.below hb)
      replace S15 := Lib.hid (S15.out.below hb)
      replace T15 := Lib.hid (T15.out.below hb)
      replace S17 := Lib.hid (S17.out.below hb)
      replace T17 := Lib.hid (T17.out.below hb)
      replace S19 := Lib.hid (S19.out.below hb)
      replace T19 := Lib.hid (T19.out.below hb)
      replace A := Lib.hid (bthen A.out hb)
      clear hb
      clear e1
      have HN8o := HN8.out
      have T17s := T17.out.1
      have T17c := T17.out.2
      have T19s := T19.out.1
      have T19c := T19.out.2
      go_upto_region 17 with fail
      clear T17s T17c T19s T19c
      go_loopw [21] (fun i wr => ∃ j : Nat, j ≤ an ∧ i = .int .i64 (j : Int) ∧ Below w16.heap.size w16 wr) (fun i _ => an - (intOf i).toNat)
      case atStart => exact ⟨0, Nat.zero_le _, rfl, Below.refl _ _⟩
      case round =>
        obtain ⟨j, hj, rfl, hbl⟩ := hrel
        have HBL := Lib.hid hbl
        replace HM := Lib.hid (HM.out.below hbl)
        replace HF := Lib.hid (HF.out.below hbl)
        replace T3 := Lib.hid (T3.out.below hbl)
        replace S5 := Lib.hid (S5.out.below hbl)
        replace S7 := Lib.hid (S7.out.below hbl)
        replace S13 := Lib.hid (S13.out.below hbl)
        replace T13 := Lib.hid (T13.out.below hbl)
        replace S15 := Lib.hid (S15.out.below hbl)
        replace T15 := Lib.hid (T15.out.below hbl)
        replace S17 := Lib.hid (S17.out.below hbl)
        replace T17 := Lib.hid (T17.out.below hbl)
        replace S19 := Lib.hid (S19.out.below hbl)
        replace T19 := Lib.hid (T19.out.below hbl)
        replace A := Lib.hid (bthen A.out hbl)
        clear hbl
        by_cases hlt : j < an
        · have HG := HLG.out j
          obtain ⟨b, o, rfl, hb, ca⟩ := S17.out.atI (k := j) (by rw [li_length, HLL.out.1]; exact hlt)
          obtain ⟨b2, o2, rfl, hb2, cb⟩ := S19.out.atI (k := j) (by rw [li_length, HLL.out.2]; exact hlt)
          rw [li_get] at ca cb
          obtain ⟨hz, hx, hy⟩ := HG
          generalize lo.getD j 0 = x at *
          generalize hi.getD j 0 = y at *
          have he : bits .andNot .i64 (x : Int) (y : Int) = 0 := by rw [i64_andNot_nat x y (by omega) (by omega), hz]; rfl
          clear hz hx hy
          have T17c0 := T17.out.2 0
          have T17c1 := T17.out.2 1
          have T17l := T17.out.1
          have T19c0 := T19.out.2 0
          have T19c1 := T19.out.2 1
          have T19l := T19.out.1
          go_wp2
          go_quiet (fail)
          go_wp2
          go_roundw
          case rel => exact ⟨j + 1, by omega, by go_num, below_drewN HBL.out _⟩
          case measure => simp [intOf]; omega
        · obtain rfl : an = j := by omega
          clear hlt hj HBL
          have T17s := T17.out.1
          have T17c := T17.out.2
          have T19s := T19.out.1
          have T19c := T19.out.2
          have HAN := Lib.hid han
          clear han
          generalize wr = wo at *
          rcases hk.out with ⟨rfl, rfl⟩ | ⟨rfl, rfl⟩
          · clear hk
            go_upto_region 24 with fail
            clear T17s T17c T19s T19c
            go_loopw [22] (fun i wr => ∃ q : Nat, q ≤ FS.length ∧ i = .int .i64 (q : Int) ∧ Below wo.heap.size wo wr) (fun i _ => FS.length - (intOf i).toNat)
            case atStart => exact ⟨0, Nat.zero_le _, rfl, Below.refl _ _⟩
            case round =>
              obtain ⟨q, hq, rfl, hbl⟩ := hrel
              have HBL := Lib.hid hbl
              replace HM := Lib.hid (HM.out.below hbl)
              replace HF := Lib.hid (HF.out.below hbl)
              replace T3 := Lib.hid (T3.out.below hbl)
              replace S5 := Lib.hid (S5.out.below hbl)
              replace S7 := Lib.hid (S7.out.below hbl)
              replace S13 := Lib.hid (S13.out.below hbl)
              replace T13 := Lib.hid (T13.out.below hbl)
              replace S15 := Lib.hid (S15.out.below hbl)
              replace T15 := Lib.hid (T15.out.below hbl)
              replace S17 := Lib.hid (S17.out.below hbl)
              replace T17 := Lib.hid (T17.out.below hbl)
              replace S19 := Lib.hid (S19.out.below hbl)
              replace T19 := Lib.hid (T19.out.below hbl)
              replace A := Lib.hid (bthen A.out hbl)
              clear hbl
              have hfl := hFS.out
              by_cases hlt : q < FS.length
              · obtain ⟨c, hc, hcl, hcr, hci⟩ := hin.out q hlt
                have HC := Lib.hid hc
                have HCL := Lib.hid hcl
                obtain ⟨bw, oy, Ajy, cjy, ey, hy, cy0, cy1, sy⟩ := S7.out.at_ hlt
                subst ey
                rw [HC.out] at cy0 cy1 sy
                simp only [li_length, HCL.out] at cy1 sy
                have Qy := Lib.hid sy
                clear sy
                have hbq : True := trivial
                have HIS := Lib.hid (fun W hm hf hg => impl_IsFiltration_ok ns us c f A1 A2 Ajy c1 c2 cjy (.slice A3 (enc f).length c3) W hm H1.out hf HOK.out HL.out HMK.out HFK.out hg hcr (relN_ok hcr))
                rw [hcl, hci] at HIS
                clear hc hcl hcr hci
                have t0 := T3.out.2 0
                have t1 := T3.out.2 1
                have t2 := T3.out.2 2
                have tl := T3.out.1
                go_upto_region 26 with fail
                have hI := (Below.refl wr.heap.size wr).drew
                refine wp_region_sched (Below wr.heap.size wr) 12 [0, 1, 2, 3, 4, 5, 7, 8, 9, 10, 11] [0, 1, 2, 3, 4, 5, 6, 7, 8, 9, 10, 11] (by kernel_rfl) (by kernel_rfl) hI ?_
                repeat
                  apply wpSched_q rfl rfl
                  case h =>
                    intro w' hI K hK
                    have t0' := (hI.cell (p := ⟨w1.heap.size, 0, none⟩) tl).trans t0
                    have t1' := (hI.cell (p := ⟨w1.heap.size, 1, none⟩) tl).trans t1
                    have t2' := (hI.cell (p := ⟨w1.heap.size, 2, none⟩) tl).trans t2
                    have cy0' := (hI.cell (p := ⟨bw, oy + q * 2, none⟩) hy).trans cy0
                    have cy1' := (hI.cell (p := ⟨bw, oy + q * 2 + 1, none⟩) hy).trans cy1
                    simp only [quietV, stillV]
                    go_simp
                    exact hK
                  go_simp
                refine wpSched_r rfl rfl ?_ hI
                intro K hK _
                go_simp
                refine (HIS.out _ (HM.out.below hI) (HF.out.below hI) (Qy.out.below hI)).mono ?_
                rintro e w40 ⟨rfl, hb⟩
                replace hI := hI.trans (hb.mono hI.size)
                refine hK _ _ hI ?_
                clear hK K hb HIS Qy t0 t1 t2 tl cy0 cy1 hy
                repeat
                  apply wpSched_q rfl rfl
                  case h =>
                    intro w' hI K hK
                    simp only [quietV, stillV]
                    go_simp
                    exact hK
                  go_simp
                refine wpSched_nil ?_
                try simp only [List.drop_succ_cons, List.drop_zero, List.drop_nil]
                replace HM := Lib.hid (HM.out.below hI)
                replace HF := Lib.hid (HF.out.below hI)
                replace T3 := Lib.hid (T3.out.below hI)
                replace S5 := Lib.hid (S5.out.below hI)
                replace S7 := Lib.hid (S7.out.below hI)
                replace S13 := Lib.hid (S13.out.below hI)
                replace T13 := Lib.hid (T13.out.below hI)
                replace S15 := Lib.hid (S15.out.below hI)
                replace T15 := Lib.hid (T15.out.below hI)
                replace S17 := Lib.hid (S17.out.below hI)
                replace T17 := Lib.hid (T17.out.below hI)
                replace S19 := Lib.hid (S19.out.below hI)
                replace T19 := Lib.hid (T19.out.below hI)
                replace A := Lib.hid (bthen A.out hI)
                have HB40 := Lib.hid hI
                clear hI
                obtain ⟨bx, ox, Ajx, cjx, ex, hx, cx0, cx1, sx⟩ := S5.out.at_ hlt
                subst ex
                rw [HC.out] at cx0 cx1 sx
                simp only [li_length, HCL.out] at cx1 sx
                have Qx := Lib.hid sx
                clear sx
                obtain ⟨bz, oz, Ajz, cjz, ez, hz, cz0, cz1, sz⟩ := S7.out.at_ hlt
                injection ez with ez
                injection ez with ez1 ez2
                subst ez1
                subst ez2
                rw [HC.out] at cz0 cz1 sz
                simp only [li_length, HCL.out] at cz1 sz
                have Qz := Lib.hid sz
                clear sz
                go_upto_region 27 with fail
                have hI := (Below.refl w40.heap.size w40).drew
                refine wp_region_sched (Below w40.heap.size w40) 9 [0, 1, 2, 3, 4, 5, 6, 7] [0, 1, 2, 3, 4, 5, 6, 7, 8] (by kernel_rfl) (by kernel_rfl) hI ?_
                repeat
                  apply wpSched_q rfl rfl
                  case h =>
                    intro w' hI K hK
                    have cx0' := (hI.cell (p := ⟨bx, ox + q * 2, none⟩) hx).trans cx0
                    have cx1' := (hI.cell (p := ⟨bx, ox + q * 2 + 1, none⟩) hx).trans cx1
                    have cz0' := (hI.cell (p := ⟨bw, oy + q * 2, none⟩) hz).trans cz0
                    have cz1' := (hI.cell (p := ⟨bw, oy + q * 2 + 1, none⟩) hz).trans cz1
                    simp only [quietV, stillV]
                    go_simp
                    exact hK
                  go_simp
                refine wpSched_r rfl rfl ?_ hI
                intro K hK _
                go_simp
                have e1 : (li c).length = an := by rw [li_length]; exact HCL.out
                have q1 := Qx.out.below hI
                have q2 := Qz.out.below hI
                rw [← e1] at q1 q2
                have HLF := laws_likeFrame5 (an : Int) _ _ (li c) _ q1 q2 (by rw [e1]; have := HN8.out; omega)
                rw [e1] at HLF
                refine HLF.mono ?_
                rintro e w41 ⟨rfl, hb⟩
                replace hI := hI.trans (hb.mono hI.size)
                refine hK _ _ hI ?_
                clear hK K hb HLF q1 q2 e1 Qx Qz cx0 cx1 cz0 cz1 hx hz
                refine wpSched_nil ?_
                try simp only [List.drop_succ_cons, List.drop_zero, List.drop_nil]
                have HB41 := Lib.hid (HB40.out.trans (hI.mono HB40.out.size))
                clear hI
                go_wp2
                go_roundw
                case rel => exact ⟨q + 1, by omega, by go_num, HBL.out.trans (HB41.out.mono HBL.out.size)⟩
                case measure => simp [intOf]; omega
              · obtain rfl : q = FS.length := by omega
                clear hlt hq
                go_wp2
                go_ret
                exact ⟨rfl, A.out⟩
          · clear hk
            go_upto_region 24 with fail
            go_loopw [22] (fun i wr => i = .int .i64 0 ∧ Below wo.heap.size wo wr) (fun _ _ => 0)
            case atStart => exact ⟨rfl, Below.refl _ _⟩
            case round =>
              obtain ⟨rfl, hbl⟩ := hrel
              replace A := Lib.hid (bthen A.out hbl)
              clear hbl
              go_wp2
              go_ret
              exact ⟨rfl, A.out⟩
    · have hc : mdOk n L1 L2 = false ∨ (mdOk n L1 L2 = true ∧ isF L3 = false) := by
        cases q1 : mdOk n L1 L2
        · exact .inl rfl
        · refine .inr ⟨rfl, ?_⟩
          cases q2 : isF L3
          · rfl
          · exact absurd ⟨q1, q2⟩ hok
      clear hok
      obtain ⟨A1, c1, rfl⟩ := s1.opn
      obtain ⟨A2, c2, rfl⟩ := s2.opn
      obtain ⟨A3, c3, rfl⟩ := s3.opn
      have S1 := Lib.hid s1
      have S2 := Lib.hid s2
      have S3 := Lib.hid s3
      clear s1 s2 s3
      have C0 := Lib.hid (fun W a b d => impl_AllFiltrations_bad n (.slice A1 L1.length c1) (.slice A2 L2.length c2) (.slice A3 L3.length c3) L1 L2 L3 W a b d (by omega) (by omega) (by omega) hc)
      have C1 := Lib.hid (fun W a b d => spec_AllFiltrations_bad n (.slice A1 L1.length c1) (.slice A2 L2.length c2) (.slice A3 L3.length c3) L1 L2 L3 W a b d (by omega) (by omega) (by omega) hc)
      have C2 := Lib.hid (fun W a b d => impl_CountFiltrations_bad n (.slice A1 L1.length c1) (.slice A2 L2.length c2) (.slice A3 L3.length c3) L1 L2 L3 W a b d (by omega) (by omega) (by omega) hc)
      have C3 := Lib.hid (fun W a b d => spec_CountFiltrations_bad n (.slice A1 L1.length c1) (.slice A2 L2.length c2) (.slice A3 L3.length c3) L1 L2 L3 W a b d (by omega) (by omega) (by omega) hc)
      have C4 := Lib.hid (fun W a b d => impl_LeastFiltration_bad n (.slice A1 L1.length c1) (.slice A2 L2.length c2) (.slice A3 L3.length c3) L1 L2 L3 W a b d (by omega) (by omega) (by omega) hc)
      have C5 := Lib.hid (fun W a b d => impl_GreatestFiltration_bad n (.slice A1 L1.length c1) (.slice A2 L2.length c2) (.slice A3 L3.length c3) L1 L2 L3 W a b d (by omega) (by omega) (by omega) hc)
      have C6 := Lib.hid (fun W a b d => spec_LeastFiltration_bad n (.slice A1 L1.length c1) (.slice A2 L2.length c2) (.slice A3 L3.length c3) L1 L2 L3 W a b d (by omega) (by omega) (by omega) hc)
      have C7 := Lib.hid (fun W a b d => spec_GreatestFiltration_bad n (.slice A1 L1.length c1) (.slice A2 L2.length c2) (.slice A3 L3.length c3) L1 L2 L3 W a b d (by omega) (by omega) (by omega) hc)
      clear hc hL1 hL2 hL3
      go_upto_region 4 with fail
      have hb := below_alloc' w1 (.cells #[.int .i64 n, .slice A1 L1.length c1, .slice A2 L2.length c2] 28)
      have T3 := Lib.hid (Bk.new w1 #[.int .i64 n, .slice A1 L1.length c1, .slice A2 L2.length c2] 28)
      replace S1 := Lib.hid (S1.out.below hb)
      replace S2 := Lib.hid (S2.out.below hb)
      replace S3 := Lib.hid (S3.out.below hb)
      replace A := Lib.hid (bthen A.out hb)
      clear hb
      generalize World.alloc w1 _ = w2 at *
      have T3s := T3.out.1
      have T3c := T3.out.2
      go_wp2_with fail
      clear T3s T3c
      refine (C0.out _ S1.out S2.out S3.out).mono ?_
      rintro e w3 ⟨rfl, hb⟩
      replace S1 := Lib.hid (S1.out.below hb)
      replace S2 := Lib.hid (S2.out.below hb)
      replace S3 := Lib.hid (S3.out.below hb)
      replace T3 := Lib.hid (T3.out.below hb)
      replace A := Lib.hid (bthen A.out hb)
      clear hb
      have T3s := T3.out.1
      have T3c := T3.out.2
      go_wp2_with fail
      clear T3s T3c
      refine (C1.out _ S1.out S2.out S3.out).mono ?_
      rintro e w4 ⟨rfl, hb⟩
      replace S1 := Lib.hid (S1.out.below hb)
      replace S2 := Lib.hid (S2.out.below hb)
      replace S3 := Lib.hid (S3.out.below hb)
      replace T3 := Lib.hid (T3.out.below hb)
      replace A := Lib.hid (bthen A.out hb)
      clear hb
      have T3s := T3.out.1
      have T3c := T3.out.2
      go_wp2_with fail
      clear T3s T3c
      refine (C2.out _ S1.out S2.out S3.out).mono ?_
      rintro e w5 ⟨rfl, hb⟩
      replace S1 := Lib.hid (S1.out.below hb)
      replace S2 := Lib.hid (S2.out.below hb)
      replace S3 := Lib.hid (S3.out.below hb)
      replace T3 := Lib.hid (T3.out.below hb)
      replace A := Lib.hid (bthen A.out hb)
      clear hb
      have T3s := T3.out.1
      have T3c := T3.out.2
      go_wp2_with fail
      clear T3s T3c
      refine (C3.out _ S1.out S2.out S3.out).mono ?_
      rintro e w6 ⟨rfl, hb⟩
      replace S1 := Lib.hid (S1.out.below hb)
      replace S2 := Lib.hid (S2.out.below hb)
      replace S3 := Lib.hid (S3.out.below hb)
      replace T3 := Lib.hid (T3.out.below hb)
      replace A := Lib.hid (bthen A.out hb)
      clear hb
      clear C0 C1 C2 C3
      have T3s := T3.out.1
      have T3c := T3.out.2
      go_wp2_with fail
      clear T3s T3c
      refine (C4.out _ S1.out S2.out S3.out).mono ?_
      rintro e w7 ⟨rfl, hb⟩
      replace S1 := Lib.hid (S1.out.below hb)
      replace S2 := Lib.hid (S2.out.below hb)
      replace S3 := Lib.hid (S3.out.below hb)
      replace T3 := Lib.hid (T3.out.below hb)
      replace A := Lib.hid (bthen A.out hb)
      clear hb
      go_upto_region 9 with fail
      have hb := below_alloc' w7 (.cells #[.int .i64 0, .slice none 0 0] 26)
      have U4 := Lib.hid (Bk.new w7 #[.int .i64 0, .slice none 0 0] 26)
      replace S1 := Lib.hid (S1.out.below hb)
      replace S2 := Lib.hid (S2.out.below hb)
      replace S3 := Lib.hid (S3.out.below hb)
      replace T3 := Lib.hid (T3.out.below hb)
      replace A := Lib.hid (bthen A.out hb)
      clear hb
      generalize World.alloc w7 _ = w8 at *
      have T3s := T3.out.1
      have T3c := T3.out.2
      go_wp2_with fail
      clear T3s T3c
      refine (C5.out _ S1.out S2.out S3.out).mono ?_
      rintro e w9 ⟨rfl, hb⟩
      replace S1 := Lib.hid (S1.out.below hb)
      replace S2 := Lib.hid (S2.out.below hb)
      replace S3 := Lib.hid (S3.out.below hb)
      replace T3 := Lib.hid (T3.out.below hb)
      replace U4 := Lib.hid (U4.out.below hb)
      replace A := Lib.hid (bthen A.out hb)
      clear hb
      go_upto_region 10 with fail
      have hb := below_alloc' w9 (.cells #[.int .i64 0, .slice none 0 0] 26)
      have U5 := Lib.hid (Bk.new w9 #[.int .i64 0, .slice none 0 0] 26)
      replace S1 := Lib.hid (S1.out.below hb)
      replace S2 := Lib.hid (S2.out.below hb)
      replace S3 := Lib.hid (S3.out.below hb)
      replace T3 := Lib.hid (T3.out.below hb)
      replace U4 := Lib.hid (U4.out.below hb)
      replace A := Lib.hid (bthen A.out hb)
      clear hb
      generalize World.alloc w9 _ = w10 at *
      have T3s := T3.out.1
      have T3c := T3.out.2
      go_wp2_with fail
      clear T3s T3c
      refine (C6.out _ S1.out S2.out S3.out).mono ?_
      rintro e w11 ⟨rfl, hb⟩
      replace S1 := Lib.hid (S1.out.below hb)
      replace S2 := Lib.hid (S2.out.below hb)
      replace S3 := Lib.hid (S3.out.below hb)
      replace T3 := Lib.hid (T3.out.below hb)
      replace U4 := Lib.hid (U4.out.below hb)
      replace U5 := Lib.hid (U5.out.below hb)
      replace A := Lib.hid (bthen A.out hb)
      clear hb
      go_upto_region 11 with fail
      have hb := below_alloc' w11 (.cells #[.int .i64 0, .slice none 0 0] 26)
      have U6 := Lib.hid (Bk.new w11 #[.int .i64 0, .slice none 0 0] 26)
      replace S1 := Lib.hid (S1.out.below hb)
      replace S2 := Lib.hid (S2.out.below hb)
      replace S3 := Lib.hid (S3.out.below hb)
      replace T3 := Lib.hid (T3.out.below hb)
      replace U4 := Lib.hid (U4.out.below hb)
      replace U5 := Lib.hid (U5.out.below hb)
      replace A := Lib.hid (bthen A.out hb)
      clear hb
      generalize World.alloc w11 _ = w12 at *
      have T3s := T3.out.1
      have T3c := T3.out.2
      go_wp2_with fail
      clear T3s T3c
      refine (C7.out _ S1.out S2.out S3.out).mono ?_
      rintro e w13 ⟨rfl, hb⟩
      replace S1 := Lib.hid (S1.out.below hb)
      replace S2 := Lib.hid (S2.out.below hb)
      replace S3 := Lib.hid (S3.out.below hb)
      replace T3 := Lib.hid (T3.out.below hb)
      replace U4 := Lib.hid (U4.out.below hb)
      replace U5 := Lib.hid (U5.out.below hb)
      replace U6 := Lib.hid (U6.out.below hb)
      replace A := Lib.hid (bthen A.out hb)
      clear hb
      go_upto_region 12 with fail
      have hb := below_alloc' w13 (.cells #[.int .i64 0, .slice none 0 0] 26)
      have U7 := Lib.hid (Bk.new w13 #[.int .i64 0, .slice none 0 0] 26)
      replace S1 := Lib.hid (S1.out.below hb)
      replace S2 := Lib.hid (S2.out.below hb)
      replace S3 := Lib.hid (S3.out.below hb)
      replace T3 := Lib.hid (T3.out.below hb)
      replace U4 := Lib.hid (U4.out.below hb)
      replace U5 := Lib.hid (U5.out.below hb)
      replace U6 := Lib.hid (U6.out.below hb)
      replace A := Lib.hid (bthen A.out hb)
      clear hb
      generalize World.alloc w13 _ = w14 at *
      clear C4 C5 C6 C7 S1 S2 S3
      have U4s := U4.out.1
      have U4c := U4.out.2
      have U6s := U6.out.1
      have U6c := U6.out.2
      go_wp2_with fail
      clear U4s U4c U6s U6c
      refine (laws_likeFrame5 0 _ _ [] _ Sl.nil Sl.nil (by simp)).mono ?_
      rintro e w15 ⟨rfl, hb⟩
      replace T3 := Lib.hid (T3.out.below hb)
      replace U4 := Lib.hid (U4.out.below hb)
      replace U5 := Lib.hid (U5.out.below hb)
      replace U6 := Lib.hid (U6.out.below hb)
      replace U7 := Lib.hid (U7.out.below hb)
      replace A := Lib.hid (bthen A.out hb)
      clear hb
      have U5s := U5.out.1
      have U5c := U5.out.2
      have U7s := U7.out.1
      have U7c := U7.out.2
      go_wp2_with fail
      clear U5s U5c U7s U7c
      refine (laws_likeFrame5 0 _ _ [] _ Sl.nil Sl.nil (by simp)).mono ?_
      rintro e w16 ⟨rfl, hb⟩
      replace T3 := Lib.hid (T3.out.below hb)
      replace U4 := Lib.hid (U4.out.below hb)
      replace U5 := Lib.hid (U5.out.below hb)
      replace U6 := Lib.hid (U6.out.below hb)
      replace U7 := Lib.hid (U7.out.below hb)
      replace A := Lib.hid (bthen A.out hb)
      clear hb
      go_wp2
      go_ret
      exact ⟨rfl, A.out⟩
end Go.Proofs.YtnolbgdbboiehaaGreatDoor

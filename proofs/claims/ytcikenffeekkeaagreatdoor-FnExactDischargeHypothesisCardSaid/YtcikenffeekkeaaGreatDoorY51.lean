/- Joined of several texts. -/
import Derived.Test.YtcikenffeekkeaaGreatDoorY50
import Derived.Test.YtcikenffeekkeaaGreatDoorY03
import Derived.Test.YtcikenffeekkeaaGreatDoorY06
import Derived.Test.YtcikenffeekkeaaGreatDoorY16
import Derived.Test.YtcikenffeekkeaaGreatDoorY49
namespace Go.Proofs.YtcikenffeekkeaaGreatDoor
/- The reference's DischargeHypothesis. -/
open Go.RowKit
set_option linter.unusedVariables false
set_option linter.unusedSimpArgs false
theorem hycode_cases (t : List UInt8) (hy : List (List Nd)) : hycode t hy = 2 ∨ hycode t hy = 1 ∨ hycode t hy = 0 := by
  unfold hycode
  split
  · exact .inl rfl
  · split
    · exact .inr (.inl rfl)
    · exact .inr (.inr rfl)
set_option maxRecDepth 100000 in
set_option maxHeartbeats 4000000 in
theorem spec_DischargeHypothesis (t : List UInt8) (hy : List (List Nd)) (P : List Ln) (vh vP : Value) (w : World) (hH : Sl2 cN w vh hy) (hhl : hy.length ≤ 1048576) (hhy : ∀ xs ∈ hy, xs.length ≤ 1048576) (hP : SlL w vP P) (hPl : P.length ≤ 1048576) (hlx : ∀ l ∈ P, l.x.length ≤ 1048576) :
    Calls Tryz.prog 6 #[.string ⟨⟨t⟩⟩, vh, vP] w fun e w' => ∃ u, e = .returned (.tuple #[u, .int .i64 (dhC t hy P)]) ∧ ObL w.heap.size w'.heap.size w' u (dhL t hy P) ∧ Below w.heap.size w w' := by
  obtain ⟨Ah, ch, rfl⟩ := hH.opn
  obtain ⟨AP, cP', rfl⟩ := hP.opn
  have HC := Lib.hid (fun pr W (hW : Below w.heap.size w W) => spec_l13Code t hy P pr _ _ W (hH.below hW) hhl hhy (hP.below hW) hPl hlx)
  have HC0 := Lib.hid (HC.out false w (Below.refl _ _))
  have HL0 : Hid (dhC t hy P ≠ 0 → dhL t hy P = []) := Lib.hid fun h => by unfold dhL; rw [if_neg h]
  have HH := Lib.hid hH
  have HPP := Lib.hid hP
  have hcs := hycode_cases t hy
  clear hH hP hlx hhy
  have base : ∀ z : Int, hycode t hy = z → z ≠ 0 → lcC t hy P false = z ∧ dhC t hy P = z := fun z h1 h2 => by
    unfold lcC dhC
    rw [h1, if_pos h2, if_pos h2]
    exact ⟨rfl, rfl⟩
  rcases hcs with h1 | h1 | h1
  · obtain ⟨e1, e2⟩ := base 2 h1 (by decide)
    have HE := Lib.hid e2
    rw [e1] at HC0
    clear e1 e2 h1 base HC
    go_enter Tryz.func6, Tryz.ntmps6
    go_wp2_with fail
    refine HC0.out.mono ?_
    rintro e w1 ⟨rfl, hb⟩
    have HB := Lib.hid hb
    clear hb
    go_wp2
    refine bodyPost_ret (v := .tuple #[.slice none 0 0, .int .i64 2]) (by simp [results, Tryz.results6, go_sem]) rfl ⟨_, by rw [HE.out], by rw [HL0.out (by rw [HE.out]; decide)]; exact ObL.nil _ _ _, HB.out⟩
  · obtain ⟨e1, e2⟩ := base 1 h1 (by decide)
    have HE := Lib.hid e2
    rw [e1] at HC0
    clear e1 e2 h1 base HC
    go_enter Tryz.func6, Tryz.ntmps6
    go_wp2_with fail
    refine HC0.out.mono ?_
    rintro e w1 ⟨rfl, hb⟩
    have HB := Lib.hid hb
    clear hb
    go_wp2
    refine bodyPost_ret (v := .tuple #[.slice none 0 0, .int .i64 1]) (by simp [results, Tryz.results6, go_sem]) rfl ⟨_, by rw [HE.out], by rw [HL0.out (by rw [HE.out]; decide)]; exact ObL.nil _ _ _, HB.out⟩
  · clear base
    have hl0 : lcC t hy P false = if lnC P.length = false then 3 else 0 := by
      unfold lcC
      rw [if_neg (by rw [h1]; decide)]
      rfl
    have hl1 : lcC t hy P true = if lnC P.length = false then 3 else if allFine t hy P = false then 5 else 0 := by
      unfold lcC
      rw [if_neg (by rw [h1]; decide)]
      cases allFine t hy P <;> rfl
    have hall : hy.all isF = true := by
      cases e : hy.all isF with
      | true => rfl
      | false => unfold hycode at h1; rw [e] at h1; split at h1 <;> simp at h1
    by_cases h2 : hy.length = 0
    · have HE : Hid (dhC t hy P = 4) := Lib.hid (by unfold dhC; rw [if_neg (by rw [h1]; decide), if_pos h2])
      have hb2 : ((hy.length : Int) == 0) = true := by rw [h2]; rfl
      rw [hl0] at HC0
      obtain ⟨cc, hcc⟩ : ∃ cc : Int, (if lnC P.length = false then 3 else 0) = cc := ⟨_, rfl⟩
      rw [hcc] at HC0
      have hc2 : (cc == 2) = false ∧ (cc == 1) = false := by rw [← hcc]; split <;> exact ⟨rfl, rfl⟩
      obtain ⟨hc2, hc3⟩ := hc2
      clear h1 h2 hl0 hl1 hcc HC hall
      go_enter Tryz.func6, Tryz.ntmps6
      go_wp2_with fail
      refine HC0.out.mono ?_
      rintro e w1 ⟨rfl, hb⟩
      have HB := Lib.hid hb
      clear hb
      go_wp2
      refine bodyPost_ret (v := .tuple #[.slice none 0 0, .int .i64 4]) (by simp [results, Tryz.results6, go_sem]) rfl ⟨_, by rw [HE.out], by rw [HL0.out (by rw [HE.out]; decide)]; exact ObL.nil _ _ _, HB.out⟩
    · have hb2 : ((hy.length : Int) == 0) = false := by simpa using h2
      have hdc : plcode t hy P ≠ 0 → dhC t hy P = plcode t hy P := fun h => by unfold dhC; rw [if_neg (by rw [h1]; decide), if_neg h2, if_pos h]
      cases hln : lnC P.length with
      | false =>
        have hpl : plcode t hy P = 3 := by unfold plcode; rw [if_pos hln]
        have HE : Hid (dhC t hy P = 3) := Lib.hid (by rw [hdc (by rw [hpl]; decide), hpl])
        rw [hl0, if_pos hln] at HC0
        clear h1 h2 hl0 hl1 HC hall hdc hpl hln
        go_enter Tryz.func6, Tryz.ntmps6
        go_wp2_with fail
        refine HC0.out.mono ?_
        rintro e w1 ⟨rfl, hb⟩
        have HB := Lib.hid hb
        clear hb
        go_wp2
        refine bodyPost_ret (v := .tuple #[.slice none 0 0, .int .i64 3]) (by simp [results, Tryz.results6, go_sem]) rfl ⟨_, by rw [HE.out], by rw [HL0.out (by rw [HE.out]; decide)]; exact ObL.nil _ _ _, HB.out⟩
      | true =>
        rw [hl0, if_neg (by rw [hln]; decide)] at HC0
        rw [if_neg (by rw [hln]; decide)] at hl1
        cases hfi : allFine t hy P with
        | false =>
          have hpl : plcode t hy P = 5 := by unfold plcode; rw [if_neg (by rw [hln]; decide), if_pos hfi]
          have HE : Hid (dhC t hy P = 5) := Lib.hid (by rw [hdc (by rw [hpl]; decide), hpl])
          rw [if_pos hfi] at hl1
          have HL1 := Lib.hid hl1
          clear h1 h2 hl0 hl1 hall hdc hpl hln hfi
          go_enter Tryz.func6, Tryz.ntmps6
          go_wp2_with fail
          refine HC0.out.mono ?_
          rintro e w1 ⟨rfl, hb⟩
          have HB := Lib.hid hb
          have HC1 := Lib.hid (HC.out true w1 hb)
          rw [HL1.out] at HC1
          clear hb HC
          go_wp2_with fail
          refine HC1.out.mono ?_
          rintro e w2 ⟨rfl, hb⟩
          have HB2 := Lib.hid (HB.out.trans (hb.mono HB.out.size))
          clear hb
          go_wp2
          refine bodyPost_ret (v := .tuple #[.slice none 0 0, .int .i64 5]) (by simp [results, Tryz.results6, go_sem]) rfl ⟨_, by rw [HE.out], by rw [HL0.out (by rw [HE.out]; decide)]; exact ObL.nil _ _ _, HB2.out⟩
        | true =>
          have hpl : plcode t hy P = 0 := by unfold plcode; rw [if_neg (by rw [hln]; decide), if_neg (by rw [hfi]; decide)]
          rw [if_neg (by rw [hfi]; decide)] at hl1
          have HL1 := Lib.hid hl1
          have hF : ∀ i (h : i < P.length), fine t hy P i (P[i]'h) = true := fun i h => by
            have := hfi
            unfold allFine at this
            rw [List.all_eq_true] at this
            have := this i (List.mem_range.2 h)
            rwa [List.getD_eq_getElem?_getD, List.getElem?_eq_getElem h] at this
          have hP2 : P.length ≤ 200 := by unfold lnC at hln; simp only [Bool.and_eq_true, decide_eq_true_eq] at hln; exact hln.2
          have hla : (hy.getLastD []).length ≤ 40 := by
            rw [lastD_at hy (by omega)]
            obtain ⟨g, -, e, hl⟩ := (isF_iff _).1 (List.all_eq_true.1 hall _ (List.getElem_mem (show hy.length - 1 < hy.length by omega)))
            rw [e]; exact hl
          have HDI := Lib.hid (fun W (hW : Below w.heap.size w W) => spec_l13Discharge t hy P _ _ W (HH.out.below hW) (by omega) hhl (HPP.out.below hW) hP2 hla hF)
          obtain ⟨OUT, hO⟩ : ∃ O, disL (hy.getLastD []) ((hy.length : Int) - 1) P = O := ⟨_, rfl⟩
          have HOC : Hid (dhC t hy P = if longL OUT = true then 3 else 0) := Lib.hid (by
            unfold dhC
            rw [hO, if_neg (by rw [h1]; decide), if_neg h2, if_neg (by rw [hpl]; decide)])
          have HOD : Hid (dhC t hy P = 0 → dhL t hy P = OUT) := Lib.hid (fun h => by unfold dhL; rw [if_pos h, hO])
          have HOL : Hid (OUT.length ≤ 1000) := Lib.hid (by rw [← hO]; have := (pall_len (hy.getLastD []) ((hy.length : Int) - 1) P P.length).2.2; unfold disL; omega)
          rw [hO] at HDI
          clear h1 h2 hl0 hl1 hall hdc hpl hln hfi hF hP2 hla hO
          go_enter Tryz.func6, Tryz.ntmps6
          go_wp2_with fail
          refine HC0.out.mono ?_
          rintro e w1 ⟨rfl, hb⟩
          have HB := Lib.hid hb
          have HC1 := Lib.hid (HC.out true w1 hb)
          rw [HL1.out] at HC1
          clear hb HC
          go_wp2_with fail
          refine HC1.out.mono ?_
          rintro e w2 ⟨rfl, hb⟩
          have HB2 := Lib.hid (HB.out.trans (hb.mono HB.out.size))
          have HD2 := Lib.hid (HDI.out w2 HB2.out)
          clear hb HC1 HDI HC0
          go_wp2_with fail
          refine HD2.out.mono ?_
          rintro e w3 ⟨u, rfl, ho, hb⟩
          have HB3 := Lib.hid (HB2.out.trans (hb.mono HB2.out.size))
          have HO3 := Lib.hid (ho.mono HB2.out.size)
          obtain ⟨Au, cu, rfl⟩ := ho.opn
          clear ho hb HD2
          by_cases h200 : 200 < OUT.length
          · have HE : Hid (dhC t hy P = 3) := Lib.hid (by rw [HOC.out, if_pos (by unfold longL; rw [decide_eq_true h200]; rfl)])
            have h2i : (200 : Int) < (OUT.length : Int) := by omega
            go_wp2
            refine bodyPost_ret (v := .tuple #[.slice none 0 0, .int .i64 3]) (by simp [results, Tryz.results6, go_sem]) rfl ⟨_, by rw [HE.out], by rw [HL0.out (by rw [HE.out]; decide)]; exact ObL.nil _ _ _, HB3.out⟩
          · have h2i : ¬ (200 : Int) < (OUT.length : Int) := by omega
            have HLG : Hid (longL OUT = OUT.any fun l => decide (40 < l.x.length)) := Lib.hid (by unfold longL; rw [decide_eq_false h200]; rfl)
            clear h200
            go_wp2
            go_loopw [10] (fun i wr => ∃ k : Nat, k ≤ OUT.length ∧ i = .int .i64 k ∧ (∀ i (h : i < OUT.length), i < k → ¬ 40 < (OUT[i]'h).x.length) ∧ wr = w3) (fun i _ => OUT.length - (intOf i).toNat)
            case atStart => exact ⟨0, Nat.zero_le _, rfl, fun i h h0 => absurd h0 (Nat.not_lt_zero _), rfl⟩
            case round =>
              obtain ⟨k, hk, rfl, hok, rfl⟩ := hrel
              have HOK := Lib.hid hok
              clear hok
              by_cases hlt : k < OUT.length
              · obtain ⟨b, o, Ai, ci, rfl, hbl, -, -, -, m3, -⟩ := HO3.out.sl.at_ hlt
                obtain ⟨nk, hnk⟩ : ∃ n, (OUT[k]'hlt).x.length = n := ⟨_, rfl⟩
                rw [hnk] at m3
                by_cases h40 : 40 < nk
                · have HE : Hid (dhC t hy P = 3) := Lib.hid (by
                    rw [HOC.out, if_pos]
                    rw [HLG.out, List.any_eq_true]
                    exact ⟨_, List.getElem_mem hlt, by rw [hnk]; exact decide_eq_true h40⟩)
                  have h4i : (40 : Int) < (nk : Int) := by omega
                  clear hnk HOK
                  go_wp2
                  refine bodyPost_ret (v := .tuple #[.slice none 0 0, .int .i64 3]) (by simp [results, Tryz.results6, go_sem]) rfl ⟨_, by rw [HE.out], by rw [HL0.out (by rw [HE.out]; decide)]; exact ObL.nil _ _ _, HB3.out⟩
                · have h4i : ¬ (40 : Int) < (nk : Int) := by omega
                  have HA : Hid (∀ i (h : i < OUT.length), i < k + 1 → ¬ 40 < (OUT[i]'h).x.length) := Lib.hid fun i hi hik => by
                    by_cases e : i < k
                    · exact HOK.out i hi e
                    · have e2 : i = k := by omega
                      subst e2; rw [hnk]; exact h40
                  clear hnk HOK
                  go_wp2
                  go_roundw
                  case rel => exact ⟨k + 1, by omega, by go_num, HA.out, by trivial⟩
                  case measure => simp [intOf]; omega
              · have HE : Hid (dhC t hy P = 0) := Lib.hid (by
                  rw [HOC.out, if_neg]
                  rw [HLG.out, List.any_eq_true]
                  rintro ⟨l, hm, h⟩
                  obtain ⟨i, hi, rfl⟩ := List.getElem_of_mem hm
                  exact HOK.out i hi (by omega) (by simpa using h))
                obtain rfl : k = OUT.length := by omega
                clear HOK
                go_wp2
                refine bodyPost_ret (v := .tuple #[.slice Au OUT.length cu, .int .i64 0]) (by simp [results, Tryz.results6, go_sem]) rfl ⟨_, by rw [HE.out], by rw [HOD.out HE.out]; exact HO3.out, HB3.out⟩
/- The walk of the law FnExactDischargeHypothesis, written by program: it returns true and writes nothing that was there. -/
open Go.RowKit
set_option linter.unusedVariables false
set_option linter.unusedSimpArgs false
set_option maxHeartbeats 1000000 in
set_option maxRecDepth 100000 in
theorem walk_DischargeHypothesis (aS_x0 : ByteArray) (vH_0 : Value) (aH_x0 : List (List Nd)) (vL_0 : Value) (aL_x0 : List Ln) (r0_x0 : List Ln) (r1_x0 : Int) (w : World) (hT : TabS w) (hH_0 : Sl2 cN w vH_0 aH_x0) (hL_0 : SlL w vL_0 aL_x0) (hr0_0 : totL r0_x0 ≤ 1048576)
    (HS : Hid (aS_x0.size ≤ 1048576 → tot aH_x0 + totL aL_x0 ≤ 1048576 → ∀ (W : World) (vH_0 : Value) (vL_0 : Value), Sl2 cN W vH_0 aH_x0 → SlL W vL_0 aL_x0 → Calls Tryz.prog 6 #[.string aS_x0, vH_0, vL_0] W fun e w' => ∃ u0_0 : Value, e = .returned (.tuple #[u0_0, .int .i64 r1_x0]) ∧ ObL W.heap.size w'.heap.size w' u0_0 r0_x0 ∧ Below W.heap.size W w'))
    (HI : Hid (aS_x0.size ≤ 1048576 → tot aH_x0 + totL aL_x0 ≤ 1048576 → ∀ (W : World) (vH_0 : Value) (vL_0 : Value), TabS W → Sl2 cN W vH_0 aH_x0 → SlL W vL_0 aL_x0 → Calls Tryz.prog 9 #[.string aS_x0, vH_0, vL_0] W fun e w' => ∃ u0_0 : Value, e = .returned (.tuple #[u0_0, .int .i64 r1_x0]) ∧ ObL W.heap.size w'.heap.size w' u0_0 r0_x0 ∧ Below W.heap.size W w')) :
    Calls Tryz.prog 3 #[.string aS_x0, vH_0, vL_0] w fun e w' => e = .returned (.bool true) ∧ Below w.heap.size w w' := by
  rcases Nat.lt_or_ge 1048576 (aS_x0.size) with ql0 | ql0
  · have hSH_0 := sumL_tot aH_x0
    have hML_0 := szM_le aL_x0
    have hMr0_0 := szM_le r0_x0
    have ql0 : decide ((1048576 : Int) < (aS_x0.size : Int)) = true := decide_eq_true (by omega)
    have A := Below.refl w.heap.size w
    go_enter Tryz.func3, Tryz.ntmps3
    have BB := Lib.hid A; clear A
    go_wp2
    go_ret
    exact ⟨rfl, BB.out⟩
  rcases Nat.lt_or_ge 1048576 (tot aH_x0) with q0 | q0
  · have hSH_0 := sumL_tot aH_x0
    have hML_0 := szM_le aL_x0
    have hMr0_0 := szM_le r0_x0
    have ql0 : decide ((1048576 : Int) < (aS_x0.size : Int)) = false := decide_eq_false (by omega)
    have A := Below.refl w.heap.size w
    go_enter Tryz.func3, Tryz.ntmps3
    go_wp2_with fail
    refine (u_sz_SSN _ aH_x0 _ _ (hH_0.below A) (by omega)).mono ?_
    rintro e w1 ⟨rfl, hb⟩
    replace A := A.trans (hb.mono A.size)
    have z1 := hb.size
    clear hb
    rw [szL_neg (by omega)]
    have BB := Lib.hid A; clear A
    go_wp2
    go_ret
    exact ⟨rfl, BB.out⟩
  rcases Nat.lt_or_ge 1048576 (tot aH_x0 + totL aL_x0) with q1 | q1
  · have hSH_0 := sumL_tot aH_x0
    have hML_0 := szM_le aL_x0
    have hMr0_0 := szM_le r0_x0
    have ql0 : decide ((1048576 : Int) < (aS_x0.size : Int)) = false := decide_eq_false (by omega)
    have A := Below.refl w.heap.size w
    go_enter Tryz.func3, Tryz.ntmps3
    go_wp2_with fail
    refine (u_sz_SSN _ aH_x0 _ _ (hH_0.below A) (by omega)).mono ?_
    rintro e w1 ⟨rfl, hb⟩
    replace A := A.trans (hb.mono A.size)
    have z1 := hb.size
    clear hb
    rw [szL_pos (by omega)]
    go_wp2_with fail
    refine (u_sz_LineS _ aL_x0 _ _ (hL_0.below A) (by omega)).mono ?_
    rintro e w2 ⟨rfl, hb⟩
    replace A := A.trans (hb.mono A.size)
    have z2 := hb.size
    clear hb
    rw [szL_neg (by omega)]
    have BB := Lib.hid A; clear A
    go_wp2
    go_ret
    exact ⟨rfl, BB.out⟩
  have HS := Lib.hid (HS.out (by omega) (by omega))
  have HI := Lib.hid (HI.out (by omega) (by omega))
  have hSH_0 := sumL_tot aH_x0
  have hML_0 := szM_le aL_x0
  have hMr0_0 := szM_le r0_x0
  have ql0 : decide ((1048576 : Int) < (aS_x0.size : Int)) = false := decide_eq_false (by omega)
  have A := Below.refl w.heap.size w
  go_enter Tryz.func3, Tryz.ntmps3
  go_wp2_with fail
  refine (u_sz_SSN _ aH_x0 _ _ (hH_0.below A) (by omega)).mono ?_
  rintro e w1 ⟨rfl, hb⟩
  replace A := A.trans (hb.mono A.size)
  have z1 := hb.size
  clear hb
  rw [szL_pos (by omega)]
  go_wp2_with fail
  refine (u_sz_LineS _ aL_x0 _ _ (hL_0.below A) (by omega)).mono ?_
  rintro e w2 ⟨rfl, hb⟩
  replace A := A.trans (hb.mono A.size)
  have z2 := hb.size
  clear hb
  rw [szL_pos (by omega)]
  go_wp2_with fail
  refine (u_to_SSN _ aH_x0 _ (hH_0.below A) (by omega)).mono ?_
  rintro e w3 ⟨tH_v0, rfl, o3_0, hb⟩
  replace A := A.trans (hb.mono A.size)
  have z3 := hb.size
  clear hb
  go_wp2_with fail
  refine (u_to_LineS _ aL_x0 _ (hL_0.below A) (by omega)).mono ?_
  rintro e w4 ⟨tL_v0, rfl, o4_0, hb⟩
  replace o3_0 := o3_0.below hb
  replace A := A.trans (hb.mono A.size)
  have z4 := hb.size
  clear hb
  go_wp2_with fail
  refine (HS.out _ _ _ o3_0.sl o4_0.sl).mono ?_
  rintro e w5 ⟨w0_v0, rfl, r5_w0_0, hb⟩
  replace o3_0 := o3_0.below hb
  replace o4_0 := o4_0.below hb
  replace A := A.trans (hb.mono A.size)
  have z5 := hb.size
  clear hb
  clear o3_0
  clear o4_0
  go_wp2_with fail
  refine (u_to_SSN _ aH_x0 _ (hH_0.below A) (by omega)).mono ?_
  rintro e w6 ⟨xH_v0, rfl, o6_0, hb⟩
  replace r5_w0_0 := r5_w0_0.below hb
  replace A := A.trans (hb.mono A.size)
  have z6 := hb.size
  clear hb
  go_wp2_with fail
  refine (u_to_LineS _ aL_x0 _ (hL_0.below A) (by omega)).mono ?_
  rintro e w7 ⟨xL_v0, rfl, o7_0, hb⟩
  replace r5_w0_0 := r5_w0_0.below hb
  replace o6_0 := o6_0.below hb
  replace A := A.trans (hb.mono A.size)
  have z7 := hb.size
  clear hb
  go_wp2_with fail
  refine (HI.out _ _ _ (hT.below A) o6_0.sl o7_0.sl).mono ?_
  rintro e w8 ⟨g0_v0, rfl, r8_g0_0, hb⟩
  replace r5_w0_0 := r5_w0_0.below hb
  replace o6_0 := o6_0.below hb
  replace o7_0 := o7_0.below hb
  replace A := A.trans (hb.mono A.size)
  have z8 := hb.size
  clear hb
  go_wp2_with fail
  refine (u_eq_LineS _ _ r0_x0 _ r8_g0_0.sl r5_w0_0.sl (by omega)).mono ?_
  rintro e w9 ⟨rfl, hb⟩
  replace r5_w0_0 := r5_w0_0.below hb
  replace o6_0 := o6_0.below hb
  replace o7_0 := o7_0.below hb
  replace r8_g0_0 := r8_g0_0.below hb
  replace A := A.trans (hb.mono A.size)
  have z9 := hb.size
  clear hb
  go_wp2_with fail
  refine (u_to_SSN _ aH_x0 _ (hH_0.below A) (by omega)).mono ?_
  rintro e w10 ⟨yH_v0, rfl, o10_0, hb⟩
  replace r5_w0_0 := r5_w0_0.below hb
  replace o6_0 := o6_0.below hb
  replace o7_0 := o7_0.below hb
  replace r8_g0_0 := r8_g0_0.below hb
  replace A := A.trans (hb.mono A.size)
  have z10 := hb.size
  clear hb
  go_wp2_with fail
  refine (u_eq_SSN _ _ aH_x0 _ o6_0.sl o10_0.sl (by omega)).mono ?_
  rintro e w11 ⟨rfl, hb⟩
  replace r5_w0_0 := r5_w0_0.below hb
  replace o6_0 := o6_0.below hb
  replace o7_0 := o7_0.below hb
  replace r8_g0_0 := r8_g0_0.below hb
  replace o10_0 := o10_0.below hb
  replace A := A.trans (hb.mono A.size)
  have z11 := hb.size
  clear hb
  clear o10_0
  go_wp2_with fail
  refine (u_to_LineS _ aL_x0 _ (hL_0.below A) (by omega)).mono ?_
  rintro e w12 ⟨yL_v0, rfl, o12_0, hb⟩
  replace r5_w0_0 := r5_w0_0.below hb
  replace o6_0 := o6_0.below hb
  replace o7_0 := o7_0.below hb
  replace r8_g0_0 := r8_g0_0.below hb
  replace A := A.trans (hb.mono A.size)
  have z12 := hb.size
  clear hb
  go_wp2_with fail
  refine (u_eq_LineS _ _ aL_x0 _ o7_0.sl o12_0.sl (by omega)).mono ?_
  rintro e w13 ⟨rfl, hb⟩
  replace r5_w0_0 := r5_w0_0.below hb
  replace o6_0 := o6_0.below hb
  replace o7_0 := o7_0.below hb
  replace r8_g0_0 := r8_g0_0.below hb
  replace o12_0 := o12_0.below hb
  replace A := A.trans (hb.mono A.size)
  have z13 := hb.size
  clear hb
  clear o12_0
  go_wp2_with fail
  refine (u_mark_SSN _ aH_x0 _ _ _ _ o6_0 (by omega) (by omega)).mono ?_
  rintro e w14 ⟨rfl, hk⟩
  replace r5_w0_0 := r5_w0_0.keep hk (by omega)
  replace o7_0 := o7_0.keep hk (by omega)
  replace r8_g0_0 := r8_g0_0.keep hk (by omega)
  clear o6_0
  replace A := below_keep A hk (by omega) A.size
  have z14 := hk.size
  clear hk
  go_wp2_with fail
  refine (u_mark_LineS _ aL_x0 _ _ _ _ o7_0 (by omega) (by omega)).mono ?_
  rintro e w15 ⟨rfl, no7_0, hk⟩
  replace r5_w0_0 := r5_w0_0.keep hk (by omega)
  replace r8_g0_0 := r8_g0_0.keep hk (by omega)
  clear o7_0; have o7_0 := no7_0; clear no7_0
  replace A := below_keep A hk (by omega) A.size
  have z15 := hk.size
  clear hk
  go_wp2_with fail
  refine (u_eq_LineS _ _ r0_x0 _ r8_g0_0.sl r5_w0_0.sl (by omega)).mono ?_
  rintro e w16 ⟨rfl, hb⟩
  replace r5_w0_0 := r5_w0_0.below hb
  replace o7_0 := o7_0.below hb
  replace r8_g0_0 := r8_g0_0.below hb
  replace A := A.trans (hb.mono A.size)
  have z16 := hb.size
  clear hb
  clear o7_0
  go_wp2_with fail
  refine (u_mark_LineS _ r0_x0 _ _ _ _ r8_g0_0 (by omega) (by omega)).mono ?_
  rintro e w17 ⟨rfl, nr8_g0_0, hk⟩
  replace r5_w0_0 := r5_w0_0.keep hk (by omega)
  clear r8_g0_0; have r8_g0_0 := nr8_g0_0; clear nr8_g0_0
  replace A := below_keep A hk (by omega) A.size
  have z17 := hk.size
  clear hk
  go_wp2_with fail
  refine (u_held_LineS _ r0_x0 _ _ r8_g0_0.sl (by omega) (by omega)).mono ?_
  rintro e w18 ⟨rfl, hb⟩
  replace r5_w0_0 := r5_w0_0.below hb
  replace r8_g0_0 := r8_g0_0.below hb
  replace A := A.trans (hb.mono A.size)
  have z18 := hb.size
  clear hb
  go_wp2_with fail
  refine (u_to_SSN _ aH_x0 _ (hH_0.below A) (by omega)).mono ?_
  rintro e w19 ⟨sH_v0, rfl, o19_0, hb⟩
  replace r5_w0_0 := r5_w0_0.below hb
  replace r8_g0_0 := r8_g0_0.below hb
  replace A := A.trans (hb.mono A.size)
  have z19 := hb.size
  clear hb
  go_wp2_with fail
  refine (u_to_LineS _ aL_x0 _ (hL_0.below A) (by omega)).mono ?_
  rintro e w20 ⟨sL_v0, rfl, o20_0, hb⟩
  replace r5_w0_0 := r5_w0_0.below hb
  replace r8_g0_0 := r8_g0_0.below hb
  replace o19_0 := o19_0.below hb
  replace A := A.trans (hb.mono A.size)
  have z20 := hb.size
  clear hb
  go_wp2_with fail
  refine (HI.out _ _ _ (hT.below A) o19_0.sl o20_0.sl).mono ?_
  rintro e w21 ⟨h0_v0, rfl, r21_h0_0, hb⟩
  replace r5_w0_0 := r5_w0_0.below hb
  replace r8_g0_0 := r8_g0_0.below hb
  replace o19_0 := o19_0.below hb
  replace o20_0 := o20_0.below hb
  replace A := A.trans (hb.mono A.size)
  have z21 := hb.size
  clear hb
  clear o19_0
  clear o20_0
  go_wp2_with fail
  refine (u_eq_LineS _ _ r0_x0 _ r21_h0_0.sl r5_w0_0.sl (by omega)).mono ?_
  rintro e w22 ⟨rfl, hb⟩
  replace r5_w0_0 := r5_w0_0.below hb
  replace r8_g0_0 := r8_g0_0.below hb
  replace r21_h0_0 := r21_h0_0.below hb
  replace A := A.trans (hb.mono A.size)
  have z22 := hb.size
  clear hb
  go_wp2_with fail
  refine (u_held_LineS _ r0_x0 _ _ r8_g0_0.sl (by omega) (by omega)).mono ?_
  rintro e w23 ⟨rfl, hb⟩
  replace r5_w0_0 := r5_w0_0.below hb
  replace r8_g0_0 := r8_g0_0.below hb
  replace r21_h0_0 := r21_h0_0.below hb
  replace A := A.trans (hb.mono A.size)
  have z23 := hb.size
  clear hb
  have BB := Lib.hid A; clear A
  clear r5_w0_0 r8_g0_0 r21_h0_0
  go_wp2
  go_ret
  exact ⟨rfl, BB.out⟩
theorem sumL_40 : ∀ o : List Ln, (∀ l ∈ o, l.x.length ≤ 40) → sumL (xsL o) ≤ 40 * o.length
  | [], _ => Nat.le_refl _
  | l :: o, h => by
    have h1 := sumL_40 o fun x hx => h x (List.mem_cons_of_mem _ hx)
    have h2 := h l (List.mem_cons_self ..)
    show l.x.length + sumL (xsL o) ≤ 40 * (o.length + 1)
    omega
theorem totL_long {o : List Ln} (h : longL o = false) : totL o ≤ 1048576 := by
  unfold longL at h
  rw [Bool.or_eq_false_iff] at h
  have h1 : ¬ 200 < o.length := of_decide_eq_false h.1
  have h2 := sumL_40 o fun l hl => by
    have := List.any_eq_false.1 h.2 l hl
    simp only [decide_eq_true_eq] at this
    omega
  unfold totL tot
  rw [xsL_len]
  omega
theorem dhL_tot (t : List UInt8) (hy : List (List Nd)) (P : List Ln) : totL (dhL t hy P) ≤ 1048576 := by
  by_cases h : dhC t hy P = 0
  · have e : dhL t hy P = disL (hy.getLastD []) ((hy.length : Int) - 1) P := by unfold dhL; rw [if_pos h]
    rw [e]
    refine totL_long ?_
    cases hl : longL (disL (hy.getLastD []) ((hy.length : Int) - 1) P) with
    | false => rfl
    | true =>
      unfold dhC at h
      rw [hl] at h
      split at h
      · rename_i h1; exact absurd h h1
      · split at h
        · cases h
        · split at h
          · rename_i h1; exact absurd h h1
          · simp at h
  · have e : dhL t hy P = [] := by unfold dhL; rw [if_neg h]
    rw [e]
    simp [totL, tot, xsL, sumL]
theorem tot_both {hy : List (List Nd)} {P : List Ln} (h : tot hy + totL P ≤ 1048576) : hy.length ≤ 1048576 ∧ (∀ xs ∈ hy, xs.length ≤ 1048576) ∧ P.length ≤ 1048576 ∧ ∀ l ∈ P, l.x.length ≤ 1048576 := by
  have h1 : tot hy = hy.length + sumL hy := rfl
  refine ⟨by omega, fun xs hx => ?_, by have := totL_len P; omega, fun l hl => ?_⟩
  · obtain ⟨i, hi, rfl⟩ := List.getElem_of_mem hx
    have := sumL_get hy i hi
    omega
  · obtain ⟨i, hi, rfl⟩ := List.getElem_of_mem hl
    have := totL_get P i hi
    omega
theorem final_DischargeHypothesis (s : ByteArray) (vH : Value) (hy : List (List Nd)) (vL : Value) (ls : List Ln) (w : World) (hT : TabS w) (hH : Sl2 cN w vH hy) (hL : SlL w vL ls) :
    Calls Tryz.prog 3 #[.string s, vH, vL] w fun e w' => e = .returned (.bool true) ∧ Below w.heap.size w w' := by
  obtain ⟨⟨t⟩⟩ := s
  exact walk_DischargeHypothesis ⟨⟨t⟩⟩ vH hy vL ls (dhL t hy ls) (dhC t hy ls) w hT hH hL (dhL_tot t hy ls)
    (Lib.hid fun _ hl W u v hu hv => by obtain ⟨a, b, c, d⟩ := tot_both hl; exact spec_DischargeHypothesis t hy ls u v W hu a b hv c d)
    (Lib.hid fun _ hl W u v hT hu hv => by obtain ⟨a, b, c, d⟩ := tot_both hl; exact impl_DischargeHypothesis t hy ls u v W hT hu a b hv c d)
end Go.Proofs.YtcikenffeekkeaaGreatDoor

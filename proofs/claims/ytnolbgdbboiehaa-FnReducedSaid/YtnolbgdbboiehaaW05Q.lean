/- The walk of FnReduced, written by program (gen05Q.py). -/
import Derived.Test.Ytnolbgdbboiehaa05Q
import Derived.Test.YtnolbgdbboiehaaDx
import Derived.Test.YtnolbgdbboiehaaLK
import Derived.Test.Ytnolbgdbboiehaa07l
namespace Go.Proofs.Ytnolbgdbboiehaa
open Go.RowKit
set_option linter.unusedVariables false
set_option linter.unusedSimpArgs false
set_option maxHeartbeats 4000000 in
set_option maxRecDepth 100000 in
theorem final_Reduced (v : Value) (xs : List (Fin 256)) (w : World) (h : Sl cY w v xs) :
    Calls Try.prog 3 #[v] w fun e w' => e = .returned (.bool true) ∧ Below w.heap.size w w' := by
  have A : Hid (Below w.heap.size w w) := Lib.hid (Below.refl _ _)
  go_enter Try.func3, Try.ntmps3
  replace h := Lib.hid h
  by_cases hbig : 4096 < xs.length
  · have HC := Lib.hid (decide_eq_true hbig ▸ laws_big v xs w h.out)
    clear hbig
    go_wp2_with fail
    refine HC.out.mono ?_
    rintro e w1 ⟨rfl, rfl⟩
    go_wp2
    go_ret
    exact ⟨rfl, A.out⟩
  · have HC := Lib.hid (decide_eq_false hbig ▸ laws_big v xs w h.out)
    have HD := Lib.hid (spec_DrawReducedModel v xs w h.out (by omega))
    clear hbig
    go_wp2_with fail
    refine HC.out.mono ?_
    rintro e w1 ⟨rfl, rfl⟩
    clear HC
    go_wp2_with fail
    refine (HD.out).mono ?_
    rintro e w1 ⟨n, x, u1, u2, L1, L2, rfl, hn, hL1, hL2, s1, s2, hb⟩
    replace A := Lib.hid (bthen A.out hb)
    clear hb
    clear HD h
    by_cases hok : mdOk n L1 L2 = true ∧ inR x 0 (n - 1) = true
    · obtain ⟨hok1, hok2⟩ := hok
      obtain ⟨ns, us, rfl, rfl, rfl, hr, hl, hb⟩ := mdOk_iff hok1
      have h1 : MdN ns us := ⟨hr, hl, hb⟩
      obtain ⟨hx0, hx1⟩ := inR_iff.1 hok2
      obtain ⟨x, rfl⟩ : ∃ k : Nat, x = (k : Int) := ⟨x.toNat, by omega⟩
      have hx : x < ns.length := by omega
      obtain ⟨qs, ts, q, h2, hq, HRi, HRs, hrd, hcl, hrc⟩ := red_ok ns us x h1 hx
      have h8 := h2.r.1
      have HT := Lib.hid (fun A0 A1 B0 B1 c0 c1 d0 d1 W hm hm2 => rounds_none ns us qs ts x q h1 h2 hx hq hrd A0 A1 B0 B1 c0 c1 d0 d1 W hm hm2)
      have HB := Lib.hid (fun A0 A1 c0 c1 W hm => impl_BisimulationClasses_ok qs ts A0 A1 c0 c1 W hm h2 (mdN_ok h2))
      rw [hcl] at HB
      have HG := Lib.hid (fun v W hv => impl_GeneratedWorlds_ok v qs q W hv h2.r hq (frN_ok h2.r))
      rw [hrc] at HG
      obtain ⟨R, hR⟩ : ∃ R : Nat, 2 ^ qs.length = R + 1 := ⟨2 ^ qs.length - 1, by have := Nat.pow_pos (n := qs.length) (show 0 < 2 by decide); omega⟩
      have e2 := wrap_two_pow' (n := qs.length) (by omega)
      rw [hR, Nat.add_sub_cancel] at HG
      rw [hR] at e2
      have hR256 : R < 256 := Nat.lt_of_succ_le (Nat.le_trans (Nat.le_of_eq hR.symm) (two_pow_256 h8))
      clear hR
      replace HRi := Lib.hid HRi
      replace HRs := Lib.hid HRs
      have HLq := Lib.hid (li_length qs)
      have HLt : Hid ((li ts).length = 6) := Lib.hid (by rw [li_length, h2.l])
      obtain ⟨A1, c1, rfl⟩ := s1.opn
      obtain ⟨A2, c2, rfl⟩ := s2.opn
      rw [li_length] at s1
      rw [li_length, hl] at s2
      rw [li_length, li_length, hl]
      have HM : Hid (Mdl w1 (.slice A1 ns.length c1) (.slice A2 6 c2) ns us) := Lib.hid ⟨s1, s2⟩
      have E1 := Lib.hid (wrap_two_pow' (n := q) (by omega))
      have E2 : Hid (wrap64 ((2 : Int) ^ qs.length) = (R : Int) + 1) := Lib.hid e2
      clear e2
      clear s1 s2 hr hl hb h1 hok1 hok2 hx0 hx1 hx hL1 hL2 hn hrd hcl hrc h2
      go_upto_region 4 with fail
      have hb := below_alloc' w1 (.cells #[.int .i64 (ns.length : Int), .slice A1 ns.length c1, .slice A2 6 c2] 28)
      have T3 := Lib.hid (Bk.new w1 #[.int .i64 (ns.length : Int), .slice A1 ns.length c1, .slice A2 6 c2] 28)
      replace HM := Lib.hid (HM.out.below hb)
      replace A := Lib.hid (bthen A.out hb)
      clear hb
      generalize World.alloc w1 _ = w2 at *
      have T3s := T3.out.1
      have T3c := T3.out.2
      go_wp2_with fail
      clear T3s T3c
      refine (HRi.out _ _ _ _ _ HM.out).mono ?_
      rintro e w3 ⟨a5, b5, rfl, Sa5, Sb5, hb⟩
      replace HM := Lib.hid (HM.out.below hb)
      replace T3 := Lib.hid (T3.out.below hb)
      replace A := Lib.hid (bthen A.out hb)
      clear hb
      obtain ⟨Aa5, ca5, rfl⟩ := Sa5.opn
      obtain ⟨Ab5, cb5, rfl⟩ := Sb5.opn
      rw [HLq.out] at Sa5
      rw [HLt.out] at Sb5
      rw [HLq.out, HLt.out]
      replace Sa5 := Lib.hid Sa5
      replace Sb5 := Lib.hid Sb5
      go_upto_region 5 with fail
      have hb := below_alloc' w3 (.cells #[.int .i64 (qs.length : Int), .slice Aa5 qs.length ca5, .slice Ab5 6 cb5] 28)
      have T5 := Lib.hid (Bk.new w3 #[.int .i64 (qs.length : Int), .slice Aa5 qs.length ca5, .slice Ab5 6 cb5] 28)
      replace HM := Lib.hid (HM.out.below hb)
      replace T3 := Lib.hid (T3.out.below hb)
      replace Sa5 := Lib.hid (Sa5.out.below hb)
      replace Sb5 := Lib.hid (Sb5.out.below hb)
      replace A := Lib.hid (bthen A.out hb)
      clear hb
      generalize World.alloc w3 _ = w4 at *
      have T3s := T3.out.1
      have T3c := T3.out.2
      go_wp2_with fail
      clear T3s T3c
      refine (HRs.out _ _ _ _ _ HM.out).mono ?_
      rintro e w5 ⟨a8, b8, rfl, Sa8, Sb8, hb⟩
      replace HM := Lib.hid (HM.out.below hb)
      replace T3 := Lib.hid (T3.out.below hb)
      replace Sa5 := Lib.hid (Sa5.out.below hb)
      replace Sb5 := Lib.hid (Sb5.out.below hb)
      replace T5 := Lib.hid (T5.out.below hb)
      replace A := Lib.hid (bthen A.out hb)
      clear hb
      obtain ⟨Aa8, ca8, rfl⟩ := Sa8.opn
      obtain ⟨Ab8, cb8, rfl⟩ := Sb8.opn
      rw [HLq.out] at Sa8
      rw [HLt.out] at Sb8
      rw [HLq.out, HLt.out]
      replace Sa8 := Lib.hid Sa8
      replace Sb8 := Lib.hid Sb8
      go_upto_region 6 with fail
      have hb := below_alloc' w5 (.cells #[.int .i64 (qs.length : Int), .slice Aa8 qs.length ca8, .slice Ab8 6 cb8] 28)
      have T8 := Lib.hid (Bk.new w5 #[.int .i64 (qs.length : Int), .slice Aa8 qs.length ca8, .slice Ab8 6 cb8] 28)
      replace HM := Lib.hid (HM.out.below hb)
      replace T3 := Lib.hid (T3.out.below hb)
      replace Sa5 := Lib.hid (Sa5.out.below hb)
      replace Sb5 := Lib.hid (Sb5.out.below hb)
      replace T5 := Lib.hid (T5.out.below hb)
      replace Sa8 := Lib.hid (Sa8.out.below hb)
      replace Sb8 := Lib.hid (Sb8.out.below hb)
      replace A := Lib.hid (bthen A.out hb)
      clear hb
      generalize World.alloc w5 _ = w6 at *
      clear HRi HRs
      have HLM := Lib.hid (fun W a b c d => laws_likeModel5 (qs.length : Int) (.slice Aa5 qs.length ca5) (.slice Aa8 qs.length ca8) (.slice Ab5 6 cb5) (.slice Ab8 6 cb8) (li qs) (li ts) W a b c d (by rw [HLq.out]; omega) (by rw [HLt.out]; omega))
      have T5s := T5.out.1
      have T5c := T5.out.2
      have T8s := T8.out.1
      have T8c := T8.out.2
      go_wp2_with fail
      clear T5s T5c T8s T8c
      refine (HLM.out _ Sa5.out Sa8.out Sb5.out Sb8.out).mono ?_
      rintro e w7 ⟨rfl, hb⟩
      replace HM := Lib.hid (HM.out.below hb)
      replace T3 := Lib.hid (T3.out.below hb)
      replace Sa5 := Lib.hid (Sa5.out.below hb)
      replace Sb5 := Lib.hid (Sb5.out.below hb)
      replace T5 := Lib.hid (T5.out.below hb)
      replace Sa8 := Lib.hid (Sa8.out.below hb)
      replace Sb8 := Lib.hid (Sb8.out.below hb)
      replace T8 := Lib.hid (T8.out.below hb)
      replace A := Lib.hid (bthen A.out hb)
      clear hb
      clear HLM
      have T3s := T3.out.1
      have T3c := T3.out.2
      have T8s := T8.out.1
      have T8c := T8.out.2
      go_wp2_with fail
      clear T3s T3c T8s T8c
      refine (HT.out _ _ _ _ _ _ _ _ _ HM.out ⟨Sa8.out, Sb8.out⟩).mono ?_
      rintro e w8 ⟨rfl, hb⟩
      replace HM := Lib.hid (HM.out.below hb)
      replace T3 := Lib.hid (T3.out.below hb)
      replace Sa5 := Lib.hid (Sa5.out.below hb)
      replace Sb5 := Lib.hid (Sb5.out.below hb)
      replace T5 := Lib.hid (T5.out.below hb)
      replace Sa8 := Lib.hid (Sa8.out.below hb)
      replace Sb8 := Lib.hid (Sb8.out.below hb)
      replace T8 := Lib.hid (T8.out.below hb)
      replace A := Lib.hid (bthen A.out hb)
      clear hb
      have T8s := T8.out.1
      have T8c := T8.out.2
      go_wp2_with fail
      clear T8s T8c
      refine (HB.out _ _ _ _ _ ⟨Sa8.out, Sb8.out⟩).mono ?_
      rintro e w9 ⟨u13, rfl, S13, hb⟩
      replace HM := Lib.hid (HM.out.below hb)
      replace T3 := Lib.hid (T3.out.below hb)
      replace Sa5 := Lib.hid (Sa5.out.below hb)
      replace Sb5 := Lib.hid (Sb5.out.below hb)
      replace T5 := Lib.hid (T5.out.below hb)
      replace Sa8 := Lib.hid (Sa8.out.below hb)
      replace Sb8 := Lib.hid (Sb8.out.below hb)
      replace T8 := Lib.hid (T8.out.below hb)
      replace A := Lib.hid (bthen A.out hb)
      clear hb
      replace S13 := Lib.hid S13.sl
      obtain ⟨A13, c13, rfl⟩ := S13.out.opn
      have HLr : (li (List.range qs.length)).length = qs.length := by rw [li_length, List.length_range]
      rw [HLr] at S13 ⊢
      have HLR := Lib.hid HLr
      clear HLr HT HB
      go_wp2
      go_loopw [15] (fun i wr => ∃ j : Nat, j ≤ qs.length ∧ i = .int .i64 (j : Int) ∧ wr = w9) (fun i _ => qs.length - (intOf i).toNat)
      case atStart => exact ⟨0, Nat.zero_le _, rfl, rfl⟩
      case round =>
        obtain ⟨j, hj, rfl, rfl⟩ := hrel
        by_cases hlt : j < qs.length
        · obtain ⟨b, o, rfl, hb, ca⟩ := S13.out.atI (k := j) (by rw [HLR.out]; exact hlt)
          rw [li_get, range_getD hlt] at ca
          go_wp2
          go_roundw
          case rel => exact ⟨j + 1, by omega, by go_num, by first | rfl | trivial⟩
          case measure => simp [intOf]; omega
        · obtain rfl : j = qs.length := by omega
          clear hlt hj
          have T8s := T8.out.1
          have T8c := T8.out.2
          clear T8s T8c
          have HR256 := Lib.hid hR256
          clear hR256
          have T8s := T8.out.1
          have T8c := T8.out.2
          go_wp2_with fail
          rw [E1.out]
          refine (HG.out _ _ Sa8.out).mono ?_
          rintro e w20 ⟨rfl, hb⟩
          clear T8s T8c
          replace HM := Lib.hid (HM.out.below hb)
          replace T3 := Lib.hid (T3.out.below hb)
          replace Sa5 := Lib.hid (Sa5.out.below hb)
          replace Sb5 := Lib.hid (Sb5.out.below hb)
          replace T5 := Lib.hid (T5.out.below hb)
          replace Sa8 := Lib.hid (Sa8.out.below hb)
          replace Sb8 := Lib.hid (Sb8.out.below hb)
          replace T8 := Lib.hid (T8.out.below hb)
          replace S13 := Lib.hid (S13.out.below hb)
          replace A := Lib.hid (bthen A.out hb)
          clear hb HG
          have hR256 := HR256.out
          have T8s := T8.out.1
          have T8c := T8.out.2
          have e2 := E2.out
          go_wp2
          go_ret
          exact ⟨rfl, A.out⟩
    · obtain ⟨k, hk, HRi, HRs⟩ := red_bad n x L1 L2 (by omega) (by omega) hok
      obtain ⟨A1, c1, rfl⟩ := s1.opn
      obtain ⟨A2, c2, rfl⟩ := s2.opn
      have S1 := Lib.hid s1
      have S2 := Lib.hid s2
      replace HRi := Lib.hid HRi
      replace HRs := Lib.hid HRs
      clear s1 s2 hok hL1 hL2 hn
      go_upto_region 4 with fail
      have hb := below_alloc' w1 (.cells #[.int .i64 n, .slice A1 L1.length c1, .slice A2 L2.length c2] 28)
      have T3 := Lib.hid (Bk.new w1 #[.int .i64 n, .slice A1 L1.length c1, .slice A2 L2.length c2] 28)
      replace S1 := Lib.hid (S1.out.below hb)
      replace S2 := Lib.hid (S2.out.below hb)
      replace A := Lib.hid (bthen A.out hb)
      clear hb
      generalize World.alloc w1 _ = w2 at *
      have T3s := T3.out.1
      have T3c := T3.out.2
      go_wp2_with fail
      clear T3s T3c
      refine (HRi.out _ _ _ S1.out S2.out).mono ?_
      rintro e w3 ⟨rfl, hb⟩
      replace S1 := Lib.hid (S1.out.below hb)
      replace S2 := Lib.hid (S2.out.below hb)
      replace T3 := Lib.hid (T3.out.below hb)
      replace A := Lib.hid (bthen A.out hb)
      clear hb
      go_upto_region 5 with fail
      have hb := below_alloc' w3 (.cells #[.int .i64 0, .slice none 0 0, .slice none 0 0] 28)
      have T5 := Lib.hid (Bk.new w3 #[.int .i64 0, .slice none 0 0, .slice none 0 0] 28)
      replace S1 := Lib.hid (S1.out.below hb)
      replace S2 := Lib.hid (S2.out.below hb)
      replace T3 := Lib.hid (T3.out.below hb)
      replace A := Lib.hid (bthen A.out hb)
      clear hb
      generalize World.alloc w3 _ = w4 at *
      have T3s := T3.out.1
      have T3c := T3.out.2
      go_wp2_with fail
      clear T3s T3c
      refine (HRs.out _ _ _ S1.out S2.out).mono ?_
      rintro e w5 ⟨rfl, hb⟩
      replace S1 := Lib.hid (S1.out.below hb)
      replace S2 := Lib.hid (S2.out.below hb)
      replace T3 := Lib.hid (T3.out.below hb)
      replace T5 := Lib.hid (T5.out.below hb)
      replace A := Lib.hid (bthen A.out hb)
      clear hb
      go_upto_region 6 with fail
      have hb := below_alloc' w5 (.cells #[.int .i64 0, .slice none 0 0, .slice none 0 0] 28)
      have T8 := Lib.hid (Bk.new w5 #[.int .i64 0, .slice none 0 0, .slice none 0 0] 28)
      replace S1 := Lib.hid (S1.out.below hb)
      replace S2 := Lib.hid (S2.out.below hb)
      replace T3 := Lib.hid (T3.out.below hb)
      replace T5 := Lib.hid (T5.out.below hb)
      replace A := Lib.hid (bthen A.out hb)
      clear hb
      generalize World.alloc w5 _ = w6 at *
      clear HRi HRs S1 S2
      have T5s := T5.out.1
      have T5c := T5.out.2
      have T8s := T8.out.1
      have T8c := T8.out.2
      go_wp2_with fail
      clear T5s T5c T8s T8c
      refine (laws_likeModel5 0 _ _ _ _ [] [] _ Sl.nil Sl.nil Sl.nil Sl.nil (by simp) (by simp)).mono ?_
      rintro e w7 ⟨rfl, hb⟩
      replace T3 := Lib.hid (T3.out.below hb)
      replace T5 := Lib.hid (T5.out.below hb)
      replace T8 := Lib.hid (T8.out.below hb)
      replace A := Lib.hid (bthen A.out hb)
      clear hb
      go_wp2
      go_ret
      exact ⟨rfl, A.out⟩
end Go.Proofs.Ytnolbgdbboiehaa

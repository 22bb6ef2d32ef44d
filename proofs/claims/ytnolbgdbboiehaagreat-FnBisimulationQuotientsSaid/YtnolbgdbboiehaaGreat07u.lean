/- Contracts of chapter 7, of the reference: l07Quotient, QuotientModel. -/
import Derived.Test.YtnolbgdbboiehaaGreat07t
namespace Go.Proofs.YtnolbgdbboiehaaGreat
open Go.RowKit
set_option linter.unusedVariables false
set_option linter.unusedSimpArgs false
/-- the cells of make([]int64, n) -/
def mkz (n : Nat) : Array Value := (List.replicate n (Value.int .i64 0)).toArray
theorem mkz_flat (n : Nat) : flat cI (List.replicate n 0) = (mkz n).toList := by rw [flat_cI]; unfold mkz; rw [List.map_replicate]
theorem run_mkz (n : Nat) (h : n ≤ 1048576) (w : World) :
    (Instr.makeSlice 24 (.int .i64 (n : Int)) (.int .i64 (n : Int))).run Tryz.prog w = .ok (.slice (some ⟨w.heap.size, 0, none⟩) n n) (w.alloc (.cells (mkz n) 2)) := by
  obtain ⟨i, hi, hz, hsize, hby⟩ := ty_int64.info
  have := run_make (P := Tryz.prog) w 24 2 i _ ty_int64.under hi hz .i64 .i64 (n : Int) (n : Int) (by omega) (Int.le_refl _) (by rw [hby]; omega) (by omega)
  have e : madeCells (Value.int .i64 0).cells ((n : Int).toNat * i.size) = mkz n := by
    rw [hsize, Int.toNat_natCast, Nat.mul_one]
    apply Array.ext (by simp [madeCells, mkz])
    intro j h1 h2
    simp [madeCells, mkz, Value.cells, Nat.mod_one]
  rw [this, e, Int.toNat_natCast]
theorem Ow.mkz {B : Nat} (w : World) (n g : Nat) (hg : g = w.heap.size) (hB : B ≤ g) (h : n ≤ 1048576) : Ow cI 2 B (w.alloc (.cells (mkz n) 2)) (.slice (some ⟨g, 0, none⟩) n n) (List.replicate n 0) :=
  Ow.lit' (List.replicate n (0 : Int)) hg (by simp) (mkz_flat n) hB (by simp; omega)
set_option maxHeartbeats 2000000 in
set_option maxRecDepth 100000 in
theorem spec_l07Quotient (ns us cl : List Nat) (n : Nat) (hn : n = mx cl cl.length) (A0 A1 A2 : Option Addr) (c0 c1 c2 : Nat) (w : World) (hm : Mdl w (.slice A0 ns.length c0) (.slice A1 6 c1) ns us) (h1 : MdN ns us) (hcl : Sl cI w (.slice A2 ns.length c2) (li cl)) (hlc : cl.length = ns.length) (hc : ∀ c ∈ cl, c < 8) :
    Calls Tryz.prog 40 #[.agg #[.int .i64 ns.length, .slice A0 ns.length c0, .slice A1 6 c1], .slice A2 ns.length c2] w
      fun e w' => ∃ u1 u2, e = .returned (.agg #[.int .i64 n, u1, u2]) ∧ Ow cI 2 w.heap.size w' u1 (li (qrl cl ns n ns.length)) ∧ Ow cI 2 w.heap.size w' u2 (li (qvl cl us)) ∧ Below w.heap.size w w' := by
  have h8 := h1.r.1
  have hb0 := below_alloc' w (.cells #[.int .i64 ns.length, .slice A0 ns.length c0, .slice A1 6 c1] 28)
  have hk0 := Blk.new w 28 #[.int .i64 ns.length, .slice A0 ns.length c0, .slice A1 6 c1]
  have hb1 := below_alloc' (w.alloc (.cells #[.int .i64 ns.length, .slice A0 ns.length c0, .slice A1 6 c1] 28)) (.cells #[.int .i64 0, .slice none 0 0, .slice none 0 0] 28)
  have hk1 : Blk _ (w.heap.size + 1) _ _ := Blk.new' (w.alloc (.cells #[.int .i64 ns.length, .slice A0 ns.length c0, .slice A1 6 c1] 28)) 28 #[.int .i64 0, .slice none 0 0, .slice none 0 0] (by simp)
  have HB := Lib.hid (bthen hb0 hb1)
  have HK0 := Lib.hid (hk0.below hb1 hk0.lt)
  have HK1 := Lib.hid hk1
  have HN := Lib.hid hm.a
  have HU := Lib.hid hm.u
  have HC := Lib.hid hcl
  have LN := Lib.hid (li_length ns)
  have LU6 := Lib.hid (show (li us).length = 6 by rw [li_length, h1.l])
  have LC := Lib.hid (show (li cl).length = ns.length by rw [li_length, hlc])
  have HL := Lib.hid hlc
  have H8 := Lib.hid hc
  have HN1 := Lib.hid hn
  have hn8 : n ≤ 8 := by rw [hn]; exact mx_le cl 8 cl.length fun i hi => hc _ (getD_mem hi)
  have HC8 : Hid (∀ i, cl.getD i 0 < 8) := Lib.hid (fun i => by
    rcases Nat.lt_or_ge i cl.length with hi | hi
    · exact hc _ (getD_mem hi)
    · rw [List.getD_eq_getElem?_getD, List.getElem?_eq_none hi]; decide)
  clear hb0 hb1 hk0 hk1 hm hcl hlc hc hn
  go_enter Tryz.func40, Tryz.ntmps40
  go_upto_region 1 with fail
  generalize World.alloc (w.alloc _) _ = W at *
  have HCW := Lib.hid (HC.out.below HB.out)
  go_wp2
  go_loop [5, 6] (fun m i => ∃ j : Nat, j ≤ ns.length ∧ i = .int .i64 j ∧ m = .int .i64 (mx cl j : Nat)) (fun _ i => ns.length - (intOf i).toNat)
  case atStart => exact ⟨0, Nat.zero_le _, rfl, rfl⟩
  case round =>
    obtain ⟨j, hj, rfl, rfl⟩ := hrel
    by_cases hlt : j < ns.length
    · obtain ⟨b2, o2, rfl, hbl2, hc2⟩ := (show Sl cI W (.slice A2 (li cl).length c2) (li cl) by rw [LC.out]; exact HCW.out).atI (k := j) (by rw [LC.out]; exact hlt)
      rw [li_get] at hc2
      have HE : Hid (mx cl (j + 1) = max (mx cl j) (cl.getD j 0 + 1)) := Lib.hid rfl
      have hk := HC8.out j
      have hq8 : mx cl j ≤ 8 := mx_le cl 8 j fun i hi => HC8.out i
      generalize mx cl j = q at *
      generalize cl.getD j 0 = y at *
      rcases Nat.le_total q (y + 1) with hq | hq
      all_goals
        go_wp2
        go_round
        case rel => exact ⟨j + 1, by omega, by go_num, by rw [HE.out]; first | (rw [Nat.max_eq_right hq]; done) | (rw [Nat.max_eq_left hq]; done) | go_num⟩
        case measure => simp [intOf]; omega
    · obtain rfl : j = ns.length := by omega
      have HE : Hid (mx cl ns.length = n) := Lib.hid (by rw [HN1.out, HL.out])
      rw [HE.out]
      clear HE
      have hm1 := run_mkz n (by omega)
      have hm2 : ∀ w : World, (Instr.makeSlice 24 (.int .i64 6) (.int .i64 6)).run Tryz.prog w = .ok (.slice (some ⟨w.heap.size, 0, none⟩) 6 6) (w.alloc (.cells (mkz 6) 2)) := fun w => run_mkz 6 (by omega) w
      have k0 := HK0.out.cell
      have l0 := HK0.out.lt
      go_upto_region 7 with fail
      go_cut [7, 8] (fun a b V => ∃ g1 g2 : Nat, a = .slice (some ⟨g1, 0, none⟩) n n ∧ b = .slice (some ⟨g2, 0, none⟩) 6 6 ∧ ¬ g1 = g2 ∧ Ow cI 2 W.heap.size V (.slice (some ⟨g1, 0, none⟩) n n) (List.replicate n 0) ∧ Ow cI 2 W.heap.size V (.slice (some ⟨g2, 0, none⟩) 6 6) (List.replicate 6 0) ∧ Below W.heap.size W V)
      case first =>
        have HX : Hid (∀ a b : Nat, a ≤ 1000 → b ≤ 1000 → Ow cI 2 W.heap.size ((W.alloc (.cells (mkz a) 2)).alloc (.cells (mkz b) 2)).drew (.slice (some ⟨W.heap.size, 0, none⟩) a a) (List.replicate a 0) ∧ Ow cI 2 W.heap.size ((W.alloc (.cells (mkz a) 2)).alloc (.cells (mkz b) 2)).drew (.slice (some ⟨W.heap.size + 1, 0, none⟩) b b) (List.replicate b 0) ∧ Below W.heap.size W ((W.alloc (.cells (mkz a) 2)).alloc (.cells (mkz b) 2)).drew) := Lib.hid (fun a b ha hb =>
          ⟨((Ow.mkz W a W.heap.size rfl (Nat.le_refl _) (by omega)).alloc _).drewN 1, (Ow.mkz (W.alloc (.cells (mkz a) 2)) b (W.heap.size + 1) (by simp) (by omega) (by omega)).drewN 1, (((Below.refl _ _).alloc (Nat.le_refl _) _).alloc (by simp) _).drew⟩)
        first | go_region | fail
        all_goals
          go_wp2_with fail
          go_meet
          first
            | exact ⟨_, _, rfl, rfl, by omega, (HX.out n 6 (by omega) (by omega)).1, (HX.out n 6 (by omega) (by omega)).2.1, (HX.out n 6 (by omega) (by omega)).2.2⟩
            | exact ⟨_, _, rfl, rfl, by omega, (HX.out 6 n (by omega) (by omega)).2.1, (HX.out 6 n (by omega) (by omega)).1, (HX.out 6 n (by omega) (by omega)).2.2⟩
      case rest =>
        obtain ⟨g1, g2, rfl, rfl, hne, hO1, hO2, hBV⟩ := hcut
        have EZ1 : List.replicate n (0 : Int) = li (qrl cl ns n 0) := by rw [qrl]; unfold li; rw [List.map_replicate]; rfl
        have EZ2 : List.replicate 6 (0 : Int) = li (qvp cl us 0 0) := by rw [qvp_zero, h1.l]; unfold li; rw [List.map_replicate]; rfl
        rw [EZ1] at hO1
        rw [EZ2] at hO2
        have HO1 := Lib.hid hO1
        have HO2 := Lib.hid hO2
        have HBV := Lib.hid hBV
        have HNE := Lib.hid hne
        have hW0 := HB.out.size
        clear hm1 hm2 hO1 hO2 hBV hne EZ1 EZ2 k0 l0
        have HONE : Hid (∀ (d : Nat) (V : World), d < 8 → Calls Tryz.prog 99 #[.int .i64 (d : Int)] V fun e w' => e = .returned (.int .i64 ((2 : Int) ^ d)) ∧ w' = V) := Lib.hid (fun d V hd => (spec_l01One d V (by omega) (by omega)).mono fun e w' ⟨he, hw⟩ => ⟨by rw [he, Int.toNat_natCast], hw.symm⟩)
        have HM : Hid (∀ V, Below W.heap.size W V → Blk V w.heap.size 28 #[.int .i64 ns.length, .slice A0 ns.length c0, .slice A1 6 c1] ∧ Sl cI V (.slice A0 (li ns).length c0) (li ns) ∧ Sl cI V (.slice A1 (li us).length c1) (li us) ∧ Sl cI V (.slice A2 (li cl).length c2) (li cl)) := Lib.hid (fun V hV => by
          rw [LN.out, LU6.out, LC.out]
          exact ⟨HK0.out.below hV HK0.out.lt, HN.out.below (HB.out.trans (hV.mono hW0)), HU.out.below (HB.out.trans (hV.mono hW0)), HC.out.below (HB.out.trans (hV.mono hW0))⟩)
        have HNB : Hid (∀ i, ns.getD i 0 < 256) := Lib.hid h1.n256
        have HUB : Hid (∀ i, us.getD i 0 < 256) := Lib.hid h1.u256
        have HCN : Hid (∀ j : Nat, j < ns.length → cl.getD j 0 < n) := Lib.hid (fun j hj => by rw [HN1.out]; exact mx_gt cl (by rw [HL.out]; exact hj))
        have HQL := Lib.hid (fun j => qrl_length cl ns n j)
        have HPW : Hid (∀ m k, imgTo (pw cl) m k < 2 ^ 8) := Lib.hid (fun m k => imgTo_lt (pw_lt H8.out) m k)
        have HQB : Hid (∀ j, ∀ x ∈ qrl cl ns n j, x < 2 ^ 8) := Lib.hid (fun j => by
          induction j with
          | zero => intro x hx; rw [qrl] at hx; rw [List.eq_of_mem_replicate hx]; decide
          | succ j ih => exact qst_lt ih _ (imgTo_lt (pw_lt H8.out) _ _))
        have H1 := Lib.hid h1
        clear h1
        go_wp2
        go_loopw [9] (fun i wr => ∃ x : Nat, x ≤ ns.length ∧ i = .int .i64 x ∧ Ow cI 2 W.heap.size wr (.slice (some ⟨g1, 0, none⟩) n n) (li (qrl cl ns n x)) ∧ Ow cI 2 W.heap.size wr (.slice (some ⟨g2, 0, none⟩) 6 6) (li (qvp cl us x 0)) ∧ Below W.heap.size W wr) (fun i _ => ns.length - (intOf i).toNat)
        case atStart => exact ⟨0, Nat.zero_le _, rfl, HO1.out, HO2.out, HBV.out⟩
        case round =>
          obtain ⟨x, hx, rfl, ho1, ho2, hb⟩ := hrel
          clear HO1 HO2 HBV
          have HO1 := Lib.hid ho1
          have HO2 := Lib.hid ho2
          have HBx := Lib.hid hb
          have k0 := (HM.out _ hb).1.cell
          clear ho1 ho2 hb
          by_cases hxn : x < ns.length
          · go_wp2
            clear k0
            go_loopw [10] (fun i wr => ∃ y : Nat, y ≤ ns.length ∧ i = .int .i64 y ∧ Ow cI 2 W.heap.size wr (.slice (some ⟨g1, 0, none⟩) n n) (li (qst (qrl cl ns n x) (cl.getD x 0) (imgTo (pw cl) (ns.getD x 0) y))) ∧ Ow cI 2 W.heap.size wr (.slice (some ⟨g2, 0, none⟩) 6 6) (li (qvp cl us x 0)) ∧ Below W.heap.size W wr) (fun i _ => ns.length - (intOf i).toNat)
            case atStart => exact ⟨0, Nat.zero_le _, rfl, by rw [imgTo, qst_zero]; exact HO1.out, HO2.out, HBx.out⟩
            case round =>
              obtain ⟨y, hy, rfl, ho1, ho2, hb⟩ := hrel
              clear HO1 HO2 HBx
              have HO1 := Lib.hid ho1
              have HO2 := Lib.hid ho2
              have HBy := Lib.hid hb
              obtain ⟨hmk, hma, hmu, hmc⟩ := HM.out _ hb
              have k0 := hmk.cell
              clear ho1 ho2 hb hmk hmu
              by_cases hyn : y < ns.length
              · obtain ⟨b0, o0, hA0, hbl0, hc0⟩ := hma.atI (k := x) (by rw [LN.out]; exact hxn)
                obtain ⟨b2, o2, hA2, hbl2, hd0⟩ := hmc.atI (k := x) (by rw [LC.out]; exact hxn)
                obtain ⟨b3, o3, hA3, hbl3, hd1⟩ := hmc.atI (k := y) (by rw [LC.out]; exact hyn)
                subst hA0
                subst hA2
                injection hA3 with hA3
                injection hA3 with hA3 hA4
                subst hA3
                subst hA4
                rw [li_get] at hc0 hd0 hd1
                have HS := Lib.hid (imgTo_pw_step (cl := cl) (ns.getD x 0) (y := y) (by rw [HL.out]; exact hyn))
                have hm256 := HNB.out x
                have hc8 := HCN.out x hxn
                have hd8 := HC8.out y
                have hgc := HQL.out x
                have hrl : (li (qst (qrl cl ns n x) (cl.getD x 0) (imgTo (pw cl) (ns.getD x 0) y))).length = n := by rw [li_length, qst_length]; exact HQL.out x
                have hq := getD_lt (qst_lt (HQB.out x) (cl.getD x 0) (HPW.out (ns.getD x 0) y)) (cl.getD x 0)
                have HQQ : Hid (qst (qrl cl ns n x) (cl.getD x 0) (imgTo (pw cl) (ns.getD x 0) y ||| 2 ^ cl.getD y 0) = qst (qst (qrl cl ns n x) (cl.getD x 0) (imgTo (pw cl) (ns.getD x 0) y)) (cl.getD x 0) (2 ^ cl.getD y 0)) := Lib.hid (qst_qst _ _ _ _ (by rw [hgc]; exact hc8)).symm
                obtain ⟨m, hmm⟩ : ∃ m, ns.getD x 0 = m := ⟨_, rfl⟩
                obtain ⟨c, hcc⟩ : ∃ c, cl.getD x 0 = c := ⟨_, rfl⟩
                obtain ⟨d, hdd⟩ : ∃ d, cl.getD y 0 = d := ⟨_, rfl⟩
                rw [hmm] at hc0 hm256 HS HQQ hrl hq HO1
                rw [hcc] at hd0 hc8 hrl hq HQQ HO1
                rw [hdd] at hd1 hd8 HS HQQ
                have HMM := Lib.hid hmm
                have HCC := Lib.hid hcc
                rw [HMM.out, HCC.out]
                obtain ⟨t, htt⟩ : ∃ t, imgTo (pw cl) m y = t := ⟨_, rfl⟩
                rw [htt] at HS HQQ hrl hq HO1
                obtain ⟨r, hrr⟩ : ∃ r, qst (qrl cl ns n x) c t = r := ⟨_, rfl⟩
                rw [hrr] at hrl hq HO1 HQQ
                have HRR := Lib.hid hrr
                have HTT := Lib.hid htt
                have HRL := Lib.hid hrl
                clear hmm hcc hdd htt hrr hma hmc hgc hrl
                go_wp2_with fail
                refine (spec_l01Bit m y _ (by omega) (by omega)).mono ?_
                rintro e w3 ⟨rfl, rfl⟩
                cases ht : m.testBit y
                · rw [if_neg (by rw [ht]; decide)] at HS
                  clear ht
                  go_wp2
                  go_roundw
                  case rel => exact ⟨y + 1, by omega, by go_num, by rw [HS.out, HRR.out]; exact HO1.out, HO2.out, HBy.out⟩
                  case measure => simp [intOf]; omega
                · rw [if_pos ht] at HS
                  obtain ⟨z, hzz⟩ : ∃ z, r.getD c 0 = z := ⟨_, rfl⟩
                  have hod := HO1.out.below (Below.refl _ _).drew
                  obtain ⟨k1, -, -, -⟩ := HO1.out.at1 rfl (j := c) (by rw [HRL.out]; exact hc8) rfl
                  obtain ⟨k4, f4, -, l4⟩ := hod.at1 rfl (j := c) (by rw [HRL.out]; exact hc8) rfl
                  rw [li_get, hzz] at k1 k4
                  rw [hzz] at hq
                  have HQ2 : Hid (qst (qrl cl ns n x) c (imgTo (pw cl) m (y + 1)) = r.set c (z ||| 2 ^ d)) := Lib.hid (by rw [HS.out, HQQ.out, qst, hzz])
                  have hset := Lib.hid (hod.set1 (j := c) (x := ((z ||| 2 ^ d : Nat) : Int)) (u := .int .i64 (z ||| 2 ^ d : Nat)) rfl rfl (by rw [HRL.out]; exact hc8))
                  rw [li_set, ← HQ2.out] at hset
                  have hfar := Lib.hid ((HO2.out.below (Below.refl _ _).drew).far (p := ⟨g1, c, none⟩) (fun e => HNE.out (by injection e with e; exact e.symm)) (.int .i64 (z ||| 2 ^ d : Nat)))
                  have hbs := Lib.hid (HBy.out.drew.setCell (p := ⟨g1, c, none⟩) (HO1.out.block g1 rfl).1 (.int .i64 (z ||| 2 ^ d : Nat)))
                  have e2 := i64_or_nat z (2 ^ d) (by omega) (two_pow_lt (by omega))
                  rw [← cast_two_pow] at e2
                  have i1 : (c : Int) < (n : Int) := by omega
                  have i2 : (x : Int) < (ns.length : Int) := by omega
                  have i3 : (y : Int) < (ns.length : Int) := by omega
                  clear ht hzz hod
                  go_wp2
                  go_still_tail 19, (by kernel_rfl)
                  still_call (HONE.out d _ hd8)
                  repeat still_step
                  refine wpStill_nil ?_
                  change wpList _ _ _ _ _ (World.drew _)
                  clear k1
                  generalize World.drew _ = w4 at *
                  go_wp2
                  go_roundw
                  case rel => exact ⟨y + 1, by omega, by go_num, hset.out, hfar.out, hbs.out⟩
                  case measure => simp [intOf]; omega
              · obtain rfl : y = ns.length := by omega
                have HE : Hid (qst (qrl cl ns n x) (cl.getD x 0) (imgTo (pw cl) (ns.getD x 0) ns.length) = qrl cl ns n (x + 1)) := Lib.hid (by rw [qrl, img, pw_length, HL.out])
                rw [HE.out] at HO1
                clear hma hmc HE
                go_wp2
                clear k0
                go_loopw [11] (fun i wr => ∃ v : Nat, v ≤ 6 ∧ i = .int .i64 v ∧ Ow cI 2 W.heap.size wr (.slice (some ⟨g1, 0, none⟩) n n) (li (qrl cl ns n (x + 1))) ∧ Ow cI 2 W.heap.size wr (.slice (some ⟨g2, 0, none⟩) 6 6) (li (qvp cl us x v)) ∧ Below W.heap.size W wr) (fun i _ => 6 - (intOf i).toNat)
                case atStart => exact ⟨0, Nat.zero_le _, rfl, HO1.out, HO2.out, HBy.out⟩
                case round =>
                  obtain ⟨v, hv, rfl, ho1, ho2, hb⟩ := hrel
                  clear HO1 HO2 HBy
                  have HO1 := Lib.hid ho1
                  have HO2 := Lib.hid ho2
                  have HBv := Lib.hid hb
                  obtain ⟨hmk, hma, hmu, hmc⟩ := HM.out _ hb
                  clear ho1 ho2 hb hma
                  by_cases hv6 : v < 6
                  · obtain ⟨b0, o0, hA0, hbl0, hc0⟩ := hmu.atI (k := v) (by rw [LU6.out]; exact hv6)
                    obtain ⟨b2, o2, hA2, hbl2, hd0⟩ := hmc.atI (k := x) (by rw [LC.out]; exact hxn)
                    subst hA0
                    subst hA2
                    have k0 := hmk.cell
                    rw [li_get] at hc0 hd0
                    have HS := Lib.hid (qvp_step cl us x v (by rw [H1.out.l]; exact hv6) (by rw [HL.out]; exact hxn))
                    have hm256 := HUB.out v
                    have hc8 := HC8.out x
                    have hrl : (li (qvp cl us x v)).length = 6 := by rw [li_length, qvp_length]; exact H1.out.l
                    have hq : (qvp cl us x v).getD v 0 < 2 ^ 8 := by rw [qvp_getD cl us x v (by rw [H1.out.l]; exact hv6)]; exact HPW.out _ _
                    obtain ⟨m, hmm⟩ : ∃ m, us.getD v 0 = m := ⟨_, rfl⟩
                    obtain ⟨c, hcc⟩ : ∃ c, cl.getD x 0 = c := ⟨_, rfl⟩
                    rw [hmm] at hc0 hm256 HS
                    rw [hcc] at hd0 hc8 HS
                    clear hmm hcc
                    obtain ⟨r, hrr⟩ : ∃ r, qvp cl us x v = r := ⟨_, rfl⟩
                    rw [hrr] at hrl hq HO2 HS
                    have HRL := Lib.hid hrl
                    clear hrr hrl hmu hmc hmk
                    go_wp2_with fail
                    refine (spec_l01Bit m x _ (by omega) (by omega)).mono ?_
                    rintro e w3 ⟨rfl, rfl⟩
                    cases ht : m.testBit x
                    · rw [if_neg (by rw [ht]; decide)] at HS
                      clear ht
                      go_wp2
                      go_roundw
                      case rel => exact ⟨v + 1, by omega, by go_num, HO1.out, by rw [HS.out]; exact HO2.out, HBv.out⟩
                      case measure => simp [intOf]; omega
                    · rw [if_pos ht] at HS
                      obtain ⟨z, hzz⟩ : ∃ z, r.getD v 0 = z := ⟨_, rfl⟩
                      have hod := HO2.out.below (Below.refl _ _).drew
                      obtain ⟨k1, -, -, -⟩ := HO2.out.at1 rfl (j := v) (by rw [HRL.out]; exact hv6) rfl
                      obtain ⟨k4, f4, -, l4⟩ := hod.at1 rfl (j := v) (by rw [HRL.out]; exact hv6) rfl
                      rw [li_get, hzz] at k1 k4
                      rw [hzz] at hq
                      have HQ2 : Hid (qvp cl us x (v + 1) = r.set v (z ||| 2 ^ c)) := Lib.hid (by rw [HS.out, qst, hzz])
                      have hset := Lib.hid (hod.set1 (j := v) (x := ((z ||| 2 ^ c : Nat) : Int)) (u := .int .i64 (z ||| 2 ^ c : Nat)) rfl rfl (by rw [HRL.out]; exact hv6))
                      rw [li_set, ← HQ2.out] at hset
                      have hfar := Lib.hid ((HO1.out.below (Below.refl _ _).drew).far (p := ⟨g2, v, none⟩) (fun e => HNE.out (by injection e with e)) (.int .i64 (z ||| 2 ^ c : Nat)))
                      have hbs := Lib.hid (HBv.out.drew.setCell (p := ⟨g2, v, none⟩) (HO2.out.block g2 rfl).1 (.int .i64 (z ||| 2 ^ c : Nat)))
                      have e2 := i64_or_nat z (2 ^ c) (by omega) (two_pow_lt (by omega))
                      rw [← cast_two_pow] at e2
                      have i2 : (x : Int) < (ns.length : Int) := by omega
                      clear ht hzz hod
                      go_wp2
                      go_still_tail 13, (by kernel_rfl)
                      still_call (HONE.out c _ hc8)
                      repeat still_step
                      refine wpStill_nil ?_
                      change wpList _ _ _ _ _ (World.drew _)
                      clear k1
                      generalize World.drew _ = w4 at *
                      go_wp2
                      go_roundw
                      case rel => exact ⟨v + 1, by omega, by go_num, hfar.out, hset.out, hbs.out⟩
                      case measure => simp [intOf]; omega
                  · obtain rfl : v = 6 := by omega
                    have HE := Lib.hid (show qvp cl us x 6 = qvp cl us (x + 1) 0 by rw [← qvp_next, H1.out.l])
                    clear hmk hmu hmc
                    go_wp2
                    go_roundw
                    case rel => exact ⟨x + 1, by omega, by go_num, HO1.out, by rw [← HE.out]; exact HO2.out, HBv.out⟩
                    case measure => simp [intOf]; omega
          · obtain rfl : x = ns.length := by omega
            have HE := Lib.hid (show qvp cl us ns.length 0 = qvl cl us by rw [← HL.out]; exact qvp_done cl us)
            rw [HE.out] at HO2
            have hr1 := HK1.out.below HBx.out HK1.out.lt
            have rc := hr1.cell
            have rf := hr1.frozen
            have rl := hr1.lt
            have hW1 := HK1.out.lt
            have HBz := Lib.hid (bthen HB.out (HBx.out))
            have HW0 := Lib.hid hW0
            clear hr1
            go_wp2
            refine bodyPost_ret (v := .agg #[.int .i64 n, .slice (some ⟨g1, 0, none⟩) n n, .slice (some ⟨g2, 0, none⟩) 6 6]) (by simp [results, Tryz.results40, go_sem, rc, rf, rl]) rfl ⟨_, _, rfl, ?_, ?_, ?_⟩
            · exact (((HO1.out.setBelow hW1 _).setBelow hW1 _).setBelow hW1 _).mono HW0.out
            · exact (((HO2.out.setBelow hW1 _).setBelow hW1 _).setBelow hW1 _).mono HW0.out
            · exact ((HBz.out.setCell (Nat.le_succ _) _).setCell (Nat.le_succ _) _).setCell (Nat.le_succ _) _
end Go.Proofs.YtnolbgdbboiehaaGreat

/- Joined of several texts: 14z, 14A. -/
import Derived.Test.YtnolbgdbboiehaaGreatDoorAT
import Derived.Test.YtnolbgdbboiehaaGreatDoorAY
import Derived.Test.YtnolbgdbboiehaaGreatDoorM14t
import Derived.Test.YtnolbgdbboiehaaGreatDoorSch
namespace Go.Proofs.YtnolbgdbboiehaaGreatDoor
open Go.RowKit
set_option linter.unusedVariables false
set_option linter.unusedSimpArgs false
/- Contracts of chapter 14: the number of filtrations, of the program and of the reference. -/
def ocF (m : Int) : Int :=
  (fun x6 => bits .and .i64 (wrap64 x6) 127) ((fun x5 => IntKind.u64.wrap (x5 + x5 / 4294967296)) ((fun x4 => IntKind.u64.wrap (x4 + x4 / 65536)) ((fun x3 => IntKind.u64.wrap (x3 + x3 / 256))
    ((fun x2 => bits .and .u64 (IntKind.u64.wrap (x2 / 16 + x2)) 1085102592571150095) ((fun x1 => IntKind.u64.wrap (bits .and .u64 (x1 / 4) 3689348814741910323 + bits .and .u64 x1 3689348814741910323)) (IntKind.u64.wrap (bits .and .u64 (m / 2) 6148914691236517205 + bits .and .u64 m 6148914691236517205)))))))
theorem ocF_pc : ∀ m : Nat, m < 256 → ocF m = (pc m : Int) := by decide +kernel
theorem bits_OnesCount64 (m : Nat) (w : World) (hm : m < 256) :
    Calls Tryz.prog 132 #[.int .u64 (m : Int)] w fun e w' => e = .returned (.int .i64 (pc m : Nat)) ∧ w = w' := by
  have HP := Lib.hid (ocF_pc m hm)
  go_enter Tryz.func132, Tryz.ntmps132
  go_wp2
  go_ret
  exact ⟨congrArg (fun x => Ending.returned (.int .i64 x)) HP.out, rfl⟩
theorem impl_countMembers (m : Nat) (w : World) (hm : m < 256) :
    Calls Tryz.prog 83 #[.int .i64 (m : Int)] w fun e w' => e = .returned (.int .i64 (pc m : Nat)) ∧ w = w' := by
  have HC := Lib.hid (bits_OnesCount64 m w hm)
  go_enter Tryz.func83, Tryz.ntmps83
  go_wp2_with fail
  refine HC.out.mono ?_
  rintro e w1 ⟨rfl, rfl⟩
  go_wp2
  go_ret
  exact ⟨rfl, rfl⟩
set_option maxHeartbeats 1000000 in
set_option maxRecDepth 100000 in
theorem impl_choice (ns us : List Nat) (f : Fm) (F : Nat) (A0 A1 A : Option Addr) (c0 c1 cc : Nat) (sf bx dm : Value) (w : World) (h : Fil w F ns us f A0 A1 A c0 c1 cc sf bx dm) (h1 : MdN ns us) (hl : (enc f).length ≤ 1000) :
    Calls Tryz.prog 39 #[.pointer (some ⟨F, 0, none⟩)] w fun e w' => e = .returned (.int .i64 (chc ns us f : Nat)) ∧ Below w.heap.size w w' := by
  have HF := Lib.hid h
  have H1 := Lib.hid h1
  have HL := Lib.hid hl
  clear h h1 hl
  go_enter Tryz.func39, Tryz.ntmps39
  go_wp2_with fail
  refine (impl_least ns us f F A0 A1 A c0 c1 cc sf bx dm _ HF.out H1.out.r).mono ?_
  rintro e w1 ⟨B, d, rfl, ho, hb⟩
  have O1 := Lib.hid ho
  have HB1 := Lib.hid hb
  clear ho hb
  go_wp2_with fail
  refine (impl_greatest ns us f F A0 A1 A c0 c1 cc sf bx dm _ (HF.out.below HB1.out) H1.out HL.out).mono ?_
  rintro e w2 ⟨B', d', rfl, ho, hb⟩
  have O2 := Lib.hid ho
  have O3 := Lib.hid (O1.out.below hb)
  have HB2 := Lib.hid (bthen HB1.out hb)
  clear ho hb
  go_upto_region 2 with fail
  have hba := below_alloc' w2 (.cells #[.int .i64 (acn ns us f : Nat), .slice B (acn ns us f) d] 26)
  have hka := Blk.new w2 26 #[.int .i64 (acn ns us f : Nat), .slice B (acn ns us f) d]
  have hbb := below_alloc' (w2.alloc (.cells #[.int .i64 (acn ns us f : Nat), .slice B (acn ns us f) d] 26)) (.cells #[.int .i64 (acn ns us f : Nat), .slice B' (acn ns us f) d'] 26)
  have hkb : Blk _ (w2.heap.size + 1) _ _ := Blk.new' (w2.alloc (.cells #[.int .i64 (acn ns us f : Nat), .slice B (acn ns us f) d] 26)) 26 #[.int .i64 (acn ns us f : Nat), .slice B' (acn ns us f) d'] (by simp)
  have HB3 := Lib.hid (bthen HB2.out (bthen hba hbb))
  have HKa := Lib.hid (hka.below hbb hka.lt)
  have HKb := Lib.hid hkb
  have S1 := Lib.hid ((O3.out.below hba).below hbb).sl
  have S2 := Lib.hid ((O2.out.below hba).below hbb).sl
  clear hba hka hbb hkb O1 O2 O3
  generalize World.alloc (w2.alloc _) _ = w3 at *
  have E3 := Lib.hid (show (li (lst ns us f)).length = acn ns us f by rw [li_length, lst_length])
  have E4 := Lib.hid (show (li (gre ns us f)).length = acn ns us f by rw [li_length, gre_length])
  have HNN := Lib.hid (Nat.le_trans (acn_le ns us f) H1.out.r.1)
  have HLT := Lib.hid (lst_lt ns us f)
  have HGT := Lib.hid (gre_lt ns us f)
  have HP : Hid (chc ns us f = chTo (lst ns us f) (gre ns us f) (acn ns us f)) := Lib.hid rfl
  have HCL := Lib.hid (chTo_le (lst ns us f) (gre ns us f))
  have HST : Hid (∀ k, chTo (lst ns us f) (gre ns us f) (k + 1) = chTo (lst ns us f) (gre ns us f) k + pc (andnot ((gre ns us f).getD k 0) ((lst ns us f).getD k 0))) := Lib.hid fun k => rfl
  have HZ : Hid (chTo (lst ns us f) (gre ns us f) 0 = 0) := Lib.hid rfl
  have ka := HKa.out.cell
  have kb := HKb.out.cell
  have la := HKa.out.lt
  have lb := HKb.out.lt
  have a1 : w3.cell? ⟨w2.heap.size, 1, none⟩ = some (.slice B (acn ns us f) d) := ka 1
  have b1 : w3.cell? ⟨w2.heap.size + 1, 1, none⟩ = some (.slice B' (acn ns us f) d') := kb 1
  clear ka kb
  generalize lst ns us f = lo at *
  generalize gre ns us f = hi at *
  generalize chTo lo hi = ct at *
  generalize acn ns us f = n at *
  have hn8 : n ≤ 8 := HNN.out
  go_wp2
  go_loop [5, 15] (fun t i => ∃ j : Nat, j ≤ n ∧ i = .int .i64 j ∧ t = .int .i64 (ct j : Nat)) (fun _ i => n - (intOf i).toNat)
  case atStart => exact ⟨0, Nat.zero_le _, rfl, by rw [HZ.out]; rfl⟩
  case round =>
    obtain ⟨j, hj, rfl, rfl⟩ := hrel
    by_cases hlt : j < n
    · obtain ⟨g1, o1, rfl, t1, f1⟩ := (show Sl cI w3 (.slice B (li lo).length d) _ by rw [E3.out]; exact S1.out).atI (k := j) (by rw [E3.out]; exact hlt)
      obtain ⟨g2, o2, rfl, t2, f2⟩ := (show Sl cI w3 (.slice B' (li hi).length d') _ by rw [E4.out]; exact S2.out).atI (k := j) (by rw [E4.out]; exact hlt)
      rw [li_get] at f1 f2
      have h256 : ∀ {l : List Nat}, (∀ x ∈ l, x < 2 ^ n) → ∀ i, l.getD i 0 < 256 := fun h i => Nat.lt_of_lt_of_le (getD_lt h i) (two_pow_256 hn8)
      have q1 := h256 HLT.out j
      have q2 := h256 HGT.out j
      have HS := Lib.hid (HST.out j)
      obtain ⟨m1, hm1⟩ : ∃ m, lo.getD j 0 = m := ⟨_, rfl⟩
      obtain ⟨m2, hm2⟩ : ∃ m, hi.getD j 0 = m := ⟨_, rfl⟩
      rw [hm1] at f1 q1 HS
      rw [hm2] at f2 q2 HS
      have E := i64_andNot_nat m2 m1 (by omega) (by omega)
      have hq : andnot m2 m1 < 256 := andnot_lt (k := 8) q2
      have hc := HCL.out j
      have hp := pcTo_le (andnot m2 m1) 8
      have HQ : Hid (pcTo (andnot m2 m1) 8 = pc (andnot m2 m1)) := Lib.hid rfl
      rw [HQ.out] at hp
      clear hm1 hm2 h256
      have HCM := Lib.hid (fun W => impl_countMembers (andnot m2 m1) W hq)
      generalize andnot m2 m1 = z at *
      generalize pc z = p at *
      generalize ct j = q at *
      go_wp2_with fail
      refine (HCM.out _).mono ?_
      rintro e w4 ⟨rfl, rfl⟩
      go_wp2
      go_round
      case rel => exact ⟨j + 1, by omega, by go_num, by rw [HS.out]; go_num⟩
      case measure => simp [intOf]; omega
    · obtain rfl : j = n := by omega
      go_wp2
      go_ret
      exact ⟨by rw [HP.out]; rfl, HB3.out⟩
/- Contracts of CountFiltrations, of the program and of the reference. -/
theorem wrap_pow30 {k : Nat} (h : ¬ 30 < k) : wrap64 ((2 : Int) ^ k) = 2 ^ k := wrap_two_pow (by omega)
set_option maxRecDepth 100000 in
theorem impl_CountFiltrations_ok (ns us : List Nat) (f : Fm) (A0 A1 : Option Addr) (c0 c1 : Nat) (v : Value) (w : World) (hm : Mdl w (.slice A0 ns.length c0) (.slice A1 6 c1) ns us) (h1 : MdN ns us) (h : Sl cN w v (enc f)) (hok : f.ok = true) (hl : (enc f).length ≤ 40) (hmk : mdOk ns.length (li ns) (li us) = true) (hfk : isF (enc f) = true) :
    Calls Tryz.prog 9 #[.agg #[.int .i64 ns.length, .slice A0 ns.length c0, .slice A1 6 c1], v] w fun e w' => e = .returned (.tuple #[.int .i64 (cfN (chc ns us f)), .int .i64 (cfC (chc ns us f))]) ∧ Below w.heap.size w w' := by
  have hb0 := below_alloc' w (.cells #[.int .i64 ns.length, .slice A0 ns.length c0, .slice A1 6 c1] 28)
  have hk0 := Blk.new w 28 #[.int .i64 ns.length, .slice A0 ns.length c0, .slice A1 6 c1]
  have HB := Lib.hid hb0
  have HK0 := Lib.hid hk0
  have HM := Lib.hid hm
  have HF := Lib.hid h
  have H1 := Lib.hid h1
  have E1 := Lib.hid (li_length ns)
  have E2 := Lib.hid (show (li us).length = 6 by rw [li_length, h1.l])
  have HX : Hid (fcode ns.length (li ns) (li us) (enc f) = 0) := Lib.hid (by unfold fcode; rw [hmk, hfk]; rfl)
  have HC := Lib.hid (fun W (hW : Below w.heap.size w W) => HX.out ▸ impl_modelCode ns.length _ _ v (li ns) (li us) (enc f) W (hm.a.below hW) (hm.u.below hW) (h.below hW) (by rw [E1.out]; have := h1.r.1; omega) (by rw [E2.out]; omega) (by omega))
  have HN := Lib.hid (fun W (hW : Below w.heap.size w W) => impl_newFilter ns us f A0 A1 c0 c1 v W (hm.below hW) h1 (h.below hW) hok hl)
  have HL := Lib.hid hl
  have HCh := Lib.hid (fun F A cc bx dm W (hF : Fil W F ns us f A0 A1 A c0 c1 cc v bx dm) => impl_choice ns us f F A0 A1 A c0 c1 cc v bx dm W hF h1 (by omega))
  have HCL := Lib.hid (chc_le ns us f h1.r.1)
  generalize chc ns us f = k at *
  clear hb0 hk0 hm h hmk hfk h1 hl
  go_enter Tryz.func9, Tryz.ntmps9
  go_upto_region 1 with fail
  generalize World.alloc w _ = W at *
  have k0 := HK0.out.cell
  have l0 := HK0.out.lt
  go_wp2_with fail
  refine (HC.out _ HB.out).mono ?_
  rintro e w1 ⟨rfl, hb⟩
  have HB1 := Lib.hid (bthen HB.out hb)
  have HK2 := Lib.hid (HK0.out.below hb l0)
  clear hb k0 l0
  have k0 := HK2.out.cell
  have l0 := HK2.out.lt
  go_wp2_with fail
  refine (HN.out _ HB1.out).mono ?_
  rintro e w2 ⟨F, A, cc, bx, dm, rfl, hF, hbl, ho, hbx, hdm, hb⟩
  have HB2 := Lib.hid (bthen HB1.out hb)
  have HFil : Hid (Fil w2 F ns us f A0 A1 A c0 c1 cc v bx dm) := Lib.hid ⟨hbl, HM.out.below (bthen HB1.out hb), ho.sl, hbx, hdm⟩
  clear ho hb hbl hbx hdm k0 l0
  go_wp2_with fail
  refine (HCh.out F A cc bx dm _ HFil.out).mono ?_
  rintro e w3 ⟨rfl, hb⟩
  have HB3 := Lib.hid (bthen HB2.out hb)
  clear hb HFil
  by_cases hk : 30 < k
  · have HN1 : Hid (cfN k = 0) := Lib.hid (by unfold cfN; rw [if_pos hk])
    have HN2 : Hid (cfC k = 3) := Lib.hid (by unfold cfC; rw [if_pos hk])
    have hk2 : (30 : Int) < (k : Int) := by omega
    go_wp2
    go_ret2
    exact ⟨by rw [HN1.out, HN2.out]; rfl, HB3.out⟩
  · have HN1 : Hid (cfN k = 2 ^ k) := Lib.hid (by unfold cfN; rw [if_neg hk])
    have HN2 : Hid (cfC k = 0) := Lib.hid (by unfold cfC; rw [if_neg hk])
    have hk2 : ¬ (30 : Int) < (k : Int) := by omega
    have hw := wrap_pow30 hk
    have hk64 : k < 64 := by omega
    go_wp2
    go_ret2
    exact ⟨(congrArg (fun x => Ending.returned (.tuple #[.int .i64 x, .int .i64 0])) hw).trans (by rw [HN1.out, HN2.out]), HB3.out⟩
set_option maxRecDepth 100000 in
theorem impl_CountFiltrations_bad (n : Int) (va vu vf : Value) (xs vs : List Int) (zs : List Nd) (w : World) (ha : Sl cI w va xs) (hu : Sl cI w vu vs) (hf : Sl cN w vf zs) (hl : xs.length ≤ 1048576) (hl' : vs.length ≤ 1048576) (hl2 : zs.length ≤ 1048576) (hc : mdOk n xs vs = false ∨ (mdOk n xs vs = true ∧ isF zs = false)) :
    Calls Tryz.prog 9 #[.agg #[.int .i64 n, va, vu], vf] w fun e w' => e = .returned (.tuple #[.int .i64 0, .int .i64 1]) ∧ Below w.heap.size w w' := by
  obtain ⟨A0, c0, rfl⟩ := ha.opn
  obtain ⟨A1, c1, rfl⟩ := hu.opn
  have hb0 := below_alloc' w (.cells #[.int .i64 n, .slice A0 xs.length c0, .slice A1 vs.length c1] 28)
  have hk0 := Blk.new w 28 #[.int .i64 n, .slice A0 xs.length c0, .slice A1 vs.length c1]
  have HB := Lib.hid hb0
  have HK0 := Lib.hid hk0
  have HX : Hid (fcode n xs vs zs = 1) := Lib.hid (by unfold fcode; rcases hc with hc | ⟨hc, hz⟩ <;> simp [hc, *])
  have HC := Lib.hid (fun W (hW : Below w.heap.size w W) => HX.out ▸ impl_modelCode n _ _ vf xs vs zs W (ha.below hW) (hu.below hW) (hf.below hW) hl hl' hl2)
  clear ha hu hf hb0 hk0 hc
  go_enter Tryz.func9, Tryz.ntmps9
  go_upto_region 1 with fail
  generalize World.alloc w _ = W at *
  have k0 := HK0.out.cell
  have l0 := HK0.out.lt
  go_wp2_with fail
  refine (HC.out _ HB.out).mono ?_
  rintro e w1 ⟨rfl, hb⟩
  have HB1 := Lib.hid (bthen HB.out hb)
  clear hb k0
  go_wp2
  go_ret2
  exact ⟨rfl, HB1.out⟩
theorem spec_l01Bits (m : Nat) (w : World) (hm : m < 256) :
    Calls Tryz.prog 81 #[.int .i64 (m : Int)] w fun e w' => e = .returned (.int .i64 (pc m : Nat)) ∧ w = w' := by
  have HEnd : Hid (∀ j, m / 2 ^ j = 0 → j ≤ 8 → pc m = pcTo m j) := Lib.hid (fun j h hj => pcTo_end h hj)
  have HST : Hid (∀ j, pcTo m (j + 1) = pcTo m j + (m / 2 ^ j) % 2) := Lib.hid (fun j => by
    rw [pcTo, Nat.testBit_eq_decide_div_mod_eq]
    have : (m / 2 ^ j) % 2 < 2 := Nat.mod_lt _ (by omega)
    by_cases h : (m / 2 ^ j) % 2 = 1
    · rw [decide_eq_true h, h]; rfl
    · rw [decide_eq_false h]; simp; omega)
  have HZ : Hid (pcTo m 0 = 0) := Lib.hid rfl
  have HDV : Hid (∀ j, m / 2 ^ (j + 1) = m / 2 ^ j / 2) := Lib.hid (fun j => by rw [Nat.pow_succ, Nat.div_div_eq_div_mul])
  have HBD : Hid (∀ j, m / 2 ^ j < 256 ∧ (8 ≤ j → m / 2 ^ j = 0)) := Lib.hid (fun j => ⟨Nat.lt_of_le_of_lt (Nat.div_le_self _ _) hm, fun h => Nat.div_eq_of_lt (Nat.lt_of_lt_of_le hm (Nat.pow_le_pow_right (n := 2) (by omega) h))⟩)
  have HPL := Lib.hid (pcTo_le m)
  have H0 : Hid (m / 2 ^ 0 = m) := Lib.hid (by simp)
  go_enter Tryz.func81, Tryz.ntmps81
  go_wp2
  go_loop [0, 3] (fun x t => ∃ j : Nat, j ≤ 8 ∧ x = .int .i64 (m / 2 ^ j : Nat) ∧ t = .int .i64 (pcTo m j : Nat)) (fun x _ => (intOf x).toNat)
  case atStart => exact ⟨0, by omega, by rw [H0.out], by rw [HZ.out]; rfl⟩
  case round =>
    obtain ⟨j, hj, rfl, rfl⟩ := hrel
    have HS := Lib.hid (HST.out j)
    have HD := Lib.hid (HDV.out j)
    obtain ⟨b1, b2⟩ := HBD.out j
    have HE := Lib.hid (HEnd.out j)
    have hp := HPL.out j
    have HB2 := Lib.hid b2
    clear b2
    generalize hq : m / 2 ^ j = q at *
    have HQ := Lib.hid hq
    clear hq
    generalize hpp : pcTo m j = p at *
    have HPP := Lib.hid hpp
    clear hpp
    by_cases h0 : q = 0
    · subst h0
      go_wp2
      go_ret
      exact ⟨by rw [HEnd.out j HQ.out hj, HPP.out]; rfl, rfl⟩
    · have hq0 : (0 : Int) < (q : Int) := by omega
      have hj8 : j < 8 := by
        rcases Nat.lt_or_ge j 8 with h | h
        · exact h
        · exact absurd (HB2.out h) h0
      go_wp2
      go_round
      case rel => exact ⟨j + 1, by omega, by rw [HD.out]; go_num, by rw [HS.out]; go_num⟩
      case measure => simp [intOf]; omega
set_option maxHeartbeats 1000000 in
set_option maxRecDepth 100000 in
theorem spec_l14Room (ns us : List Nat) (f : Fm) (A0 A1 A2 A3 : Option Addr) (c0 c1 c2 c3 : Nat) (Ab Ai Ao : Option Addr) (nb cb ni ci no co : Nat) (w : World)
    (h : SpR w ns us f A0 A1 c0 c1 (.slice A2 ns.length c2) (.slice A3 (acn ns us f) c3) (.slice Ab nb cb) (.slice Ai ni ci) (.slice Ao no co)) (h1 : MdN ns us) (hl : (enc f).length ≤ 1000) :
    Calls Tryz.prog 37 #[.agg #[.int .i64 ns.length, .slice A0 ns.length c0, .slice A1 6 c1, .slice A2 ns.length c2, .slice A3 (acn ns us f) c3, .slice Ab nb cb, .slice Ai ni ci, .slice Ao no co]] w fun e w' => e = .returned (.int .i64 (chc ns us f : Nat)) ∧ Below w.heap.size w w' := by
  have hb0 := below_alloc' w (.cells #[.int .i64 ns.length, .slice A0 ns.length c0, .slice A1 6 c1, .slice A2 ns.length c2, .slice A3 (acn ns us f) c3, .slice Ab nb cb, .slice Ai ni ci, .slice Ao no co] 66)
  have hk0 := Blk.new w 66 #[.int .i64 ns.length, .slice A0 ns.length c0, .slice A1 6 c1, .slice A2 ns.length c2, .slice A3 (acn ns us f) c3, .slice Ab nb cb, .slice Ai ni ci, .slice Ao no co]
  have HB := Lib.hid hb0
  have HK0 := Lib.hid hk0
  have HLo := Lib.hid (fun W (hW : Below w.heap.size w W) => spec_l14Least ns us (acl ns us f) [] (acn ns us f) A0 A1 A2 A3 c0 c1 c2 c3 Ab Ai Ao nb cb ni ci no co W (h.below hW).md h1 (h.below hW).cl (acl_length ns us f) (acl_lt ns us f) (Nat.le_trans (acn_le ns us f) h1.r.1))
  have HHi := Lib.hid (fun W (hW : Below w.heap.size w W) => spec_l14Greatest ns us (afw ns us f) f (acn ns us f) ns.length A0 A1 A2 A3 c0 c1 c2 c3 Ab Ai Ao nb cb ni ci no co false false W (h.below hW) h1 hl rfl (afw_length ns us f) (Nat.le_trans (acn_le ns us f) h1.r.1) (fun i => afw_le8 ns us f h1.r.1 i))
  have HNN := Lib.hid (Nat.le_trans (acn_le ns us f) h1.r.1)
  have HLT := Lib.hid (lst_lt ns us f)
  have HGT := Lib.hid (gre_lt ns us f)
  have HQ : Hid (qrl (acl ns us f) ns (acn ns us f) ns.length = lst ns us f) := Lib.hid rfl
  have HR := Lib.hid (gre_gp ns us f)
  rw [HQ.out] at HLo
  rw [HR.out] at HHi
  have E3 := Lib.hid (show (li (lst ns us f)).length = acn ns us f by rw [li_length, lst_length])
  have E4 := Lib.hid (show (li (gre ns us f)).length = acn ns us f by rw [li_length, gre_length])
  have HP : Hid (chc ns us f = chTo (lst ns us f) (gre ns us f) (acn ns us f)) := Lib.hid rfl
  have HCL := Lib.hid (chTo_le (lst ns us f) (gre ns us f))
  have HST : Hid (∀ k, chTo (lst ns us f) (gre ns us f) (k + 1) = chTo (lst ns us f) (gre ns us f) k + pc (andnot ((gre ns us f).getD k 0) ((lst ns us f).getD k 0))) := Lib.hid fun k => rfl
  have HZ : Hid (chTo (lst ns us f) (gre ns us f) 0 = 0) := Lib.hid rfl
  clear hb0 hk0 h h1 hl HQ HR
  rw [HP.out]
  clear HP
  generalize lst ns us f = lo at *
  generalize gre ns us f = hi at *
  generalize chTo lo hi = ct at *
  generalize acn ns us f = n at *
  go_enter Tryz.func37, Tryz.ntmps37
  go_upto_region 1 with fail
  generalize World.alloc w _ = W at *
  have k0 := HK0.out.cell
  have l0 := HK0.out.lt
  have hn8 : n ≤ 8 := HNN.out
  have d0 : W.cell? ⟨w.heap.size, 0, none⟩ = some (.int .i64 (ns.length : Int)) := k0 0
  have d1 : W.cell? ⟨w.heap.size, 1, none⟩ = some (.slice A0 ns.length c0) := k0 1
  have d2 : W.cell? ⟨w.heap.size, 2, none⟩ = some (.slice A1 6 c1) := k0 2
  have d3 : W.cell? ⟨w.heap.size, 3, none⟩ = some (.slice A2 ns.length c2) := k0 3
  have d4 : W.cell? ⟨w.heap.size, 4, none⟩ = some (.slice A3 n c3) := k0 4
  have d5 : W.cell? ⟨w.heap.size, 5, none⟩ = some (.slice Ab nb cb) := k0 5
  have d6 : W.cell? ⟨w.heap.size, 6, none⟩ = some (.slice Ai ni ci) := k0 6
  have d7 : W.cell? ⟨w.heap.size, 7, none⟩ = some (.slice Ao no co) := k0 7
  clear k0
  refine wp_region_sched (Below W.heap.size W) 7 [0, 2, 4, 5, 6] [0, 2, 1, 3, 4, 5, 6] (by kernel_rfl) (by kernel_rfl) (Below.refl _ _).drew ?_
  repeat
    apply wpSched_q rfl rfl
    case h =>
      intro w' hI K hK
      have d0' := (hI.cell (p := ⟨w.heap.size, 0, none⟩) l0).trans d0
      have d1' := (hI.cell (p := ⟨w.heap.size, 1, none⟩) l0).trans d1
      have d2' := (hI.cell (p := ⟨w.heap.size, 2, none⟩) l0).trans d2
      have d3' := (hI.cell (p := ⟨w.heap.size, 3, none⟩) l0).trans d3
      have d4' := (hI.cell (p := ⟨w.heap.size, 4, none⟩) l0).trans d4
      have d5' := (hI.cell (p := ⟨w.heap.size, 5, none⟩) l0).trans d5
      have d6' := (hI.cell (p := ⟨w.heap.size, 6, none⟩) l0).trans d6
      have d7' := (hI.cell (p := ⟨w.heap.size, 7, none⟩) l0).trans d7
      simp only [quietV, stillV]
      go_simp
      exact hK
    go_simp
  refine wpSched_r rfl rfl ?_ (Below.refl _ _).drew
  intro K hK _
  go_simp
  refine (HLo.out _ (bthen HB.out (Below.refl _ _).drew)).mono ?_
  rintro e w2 ⟨u1, rfl, ho1, hb⟩
  have hb2 : Below W.heap.size W w2 := (Below.refl _ _).drew.trans hb
  obtain ⟨B1, e1, rfl⟩ := ho1.opn
  rw [E3.out] at ho1 ⊢
  have O1 := Lib.hid ho1
  refine hK _ _ hb2 ?_
  clear hK K hb ho1
  refine wpSched_r rfl rfl ?_ hb2
  intro K hK _
  go_simp
  refine (HHi.out _ (bthen HB.out hb2)).mono ?_
  rintro e w3 ⟨u2, rfl, ho2, hb⟩
  have hb3 : Below W.heap.size W w3 := hb2.trans (hb.mono hb2.size)
  obtain ⟨B2, e2, rfl⟩ := ho2.opn
  rw [E4.out] at ho2 ⊢
  have S2 := Lib.hid (ho2.sl)
  have S1 := Lib.hid ((O1.out.below hb).sl)
  refine hK _ _ hb3 ?_
  clear hK K hb ho2
  repeat
    apply wpSched_q rfl rfl
    case h =>
      intro w' hI K hK
      simp only [quietV, stillV]
      go_simp
      exact hK
    go_simp
  refine wpSched_nil ?_
  try simp only [List.drop_succ_cons, List.drop_zero, List.drop_nil]
  have HB3 := Lib.hid (bthen HB.out hb3)
  clear hb3 hb2 d0 d1 d2 d3 d4 d5 d6 d7 l0
  go_wp2
  go_loopw [5, 6] (fun t i wr => ∃ j : Nat, j ≤ n ∧ i = .int .i64 j ∧ t = .int .i64 (ct j : Nat) ∧ Below w3.heap.size w3 wr) (fun _ i _ => n - (intOf i).toNat)
  case atStart => exact ⟨0, Nat.zero_le _, rfl, by rw [HZ.out]; rfl, Below.refl _ _⟩
  case round =>
    obtain ⟨j, hj, rfl, rfl, hb⟩ := hrel
    have HBi := Lib.hid hb
    by_cases hlt : j < n
    · obtain ⟨b1, o1, rfl, t1, f1⟩ := (show Sl cI wr (.slice B1 (li lo).length e1) _ by rw [E3.out]; exact S1.out.below hb).atI (k := j) (by rw [E3.out]; exact hlt)
      obtain ⟨b2, o2, rfl, t2, f2⟩ := (show Sl cI wr (.slice B2 (li hi).length e2) _ by rw [E4.out]; exact S2.out.below hb).atI (k := j) (by rw [E4.out]; exact hlt)
      rw [li_get] at f1 f2
      have h256 : ∀ {l : List Nat}, (∀ x ∈ l, x < 2 ^ n) → ∀ i, l.getD i 0 < 256 := fun h i => Nat.lt_of_lt_of_le (getD_lt h i) (two_pow_256 hn8)
      have q1 := h256 HLT.out j
      have q2 := h256 HGT.out j
      have HS := Lib.hid (HST.out j)
      obtain ⟨m1, hm1⟩ : ∃ m, lo.getD j 0 = m := ⟨_, rfl⟩
      obtain ⟨m2, hm2⟩ : ∃ m, hi.getD j 0 = m := ⟨_, rfl⟩
      rw [hm1] at f1 q1 HS
      rw [hm2] at f2 q2 HS
      have E := i64_andNot_nat m2 m1 (by omega) (by omega)
      have hq : andnot m2 m1 < 256 := andnot_lt (k := 8) q2
      have hc := HCL.out j
      have hp := pcTo_le (andnot m2 m1) 8
      have HQ : Hid (pcTo (andnot m2 m1) 8 = pc (andnot m2 m1)) := Lib.hid rfl
      rw [HQ.out] at hp
      have i1 : (j : Int) < (n : Int) := by omega
      clear hm1 hm2 h256 hb
      have HCM := Lib.hid (fun W => spec_l01Bits (andnot m2 m1) W hq)
      generalize andnot m2 m1 = z at *
      generalize pc z = p at *
      generalize ct j = q at *
      have hwr : IntKind.i64.wrap ((q : Int) + (p : Int)) = (q : Int) + (p : Int) := IntWalk.i64_in _ ⟨by omega, by omega⟩
      go_upto_region 5 with fail
      refine wp_region_sched (Below wr.heap.size wr) 13 [0, 1, 2, 3, 4, 5, 6, 7, 8, 9, 11, 12] (List.range 13) (by kernel_rfl) (by kernel_rfl) (Below.refl _ _).drew ?_
      simp only [show List.range 13 = [0, 1, 2, 3, 4, 5, 6, 7, 8, 9, 10, 11, 12] from rfl]
      repeat
        apply wpSched_q rfl rfl
        case h =>
          intro w' hI K hK
          have f1' := (hI.cell (p := ⟨b1, o1 + j, none⟩) t1).trans f1
          have f2' := (hI.cell (p := ⟨b2, o2 + j, none⟩) t2).trans f2
          simp only [quietV, stillV]
          go_simp
          exact hK
        go_simp
      refine wpSched_r rfl rfl ?_ (Below.refl _ _).drew
      intro K hK hI
      go_simp
      refine (HCM.out _).mono ?_
      rintro e w4 ⟨rfl, rfl⟩
      refine hK _ _ hI ?_
      clear hK K
      repeat
        apply wpSched_q rfl rfl
        case h =>
          intro w' hI K hK
          simp only [quietV, stillV]
          go_simp
          exact hK
        go_simp
      refine wpSched_nil ?_
      try simp only [List.drop_succ_cons, List.drop_zero, List.drop_nil]
      go_wp2
      go_roundw
      case rel => exact ⟨j + 1, by omega, by go_num, by rw [HS.out]; go_num, HBi.out.drew⟩
      case measure => simp [intOf]; omega
    · obtain rfl : j = n := by omega
      have HBe : Hid (Below w.heap.size w wr) := Lib.hid (HB3.out.trans (hb.mono HB3.out.size))
      clear hb
      go_wp2
      go_ret
      exact ⟨rfl, HBe.out⟩
set_option maxRecDepth 100000 in
theorem spec_CountFiltrations_ok (ns us : List Nat) (f : Fm) (A0 A1 : Option Addr) (c0 c1 : Nat) (v : Value) (w : World) (hm : Mdl w (.slice A0 ns.length c0) (.slice A1 6 c1) ns us) (h1 : MdN ns us) (h : Sl cN w v (enc f)) (hok : f.ok = true) (hl : (enc f).length ≤ 40) (hmk : mdOk ns.length (li ns) (li us) = true) (hfk : isF (enc f) = true) :
    Calls Tryz.prog 10 #[.agg #[.int .i64 ns.length, .slice A0 ns.length c0, .slice A1 6 c1], v] w fun e w' => e = .returned (.tuple #[.int .i64 (cfN (chc ns us f)), .int .i64 (cfC (chc ns us f))]) ∧ Below w.heap.size w w' := by
  have hb0 := below_alloc' w (.cells #[.int .i64 ns.length, .slice A0 ns.length c0, .slice A1 6 c1] 28)
  have hk0 := Blk.new w 28 #[.int .i64 ns.length, .slice A0 ns.length c0, .slice A1 6 c1]
  have HB := Lib.hid hb0
  have HK0 := Lib.hid hk0
  have HM := Lib.hid hm
  have HF := Lib.hid h
  have H1 := Lib.hid h1
  have E1 := Lib.hid (li_length ns)
  have E2 := Lib.hid (show (li us).length = 6 by rw [li_length, h1.l])
  have HC := Lib.hid (fun W (hW : Below w.heap.size w W) => spec_l14Code_ok ns us f A0 A1 c0 c1 v W (hm.below hW) h1 (h.below hW) hok hl hmk hfk)
  have HCh := Lib.hid (fun A2 A3 c2 c3 Ab Ai Ao nb cb ni ci no co W (hS : SpR W ns us f A0 A1 c0 c1 (.slice A2 ns.length c2) (.slice A3 (acn ns us f) c3) (.slice Ab nb cb) (.slice Ai ni ci) (.slice Ao no co)) => spec_l14Room ns us f A0 A1 A2 A3 c0 c1 c2 c3 Ab Ai Ao nb cb ni ci no co W hS h1 (by omega))
  have HCL := Lib.hid (chc_le ns us f h1.r.1)
  generalize chc ns us f = k at *
  have HL := Lib.hid hl
  clear hb0 hk0 hm h hmk hfk h1 hl
  go_enter Tryz.func10, Tryz.ntmps10
  go_upto_region 1 with fail
  generalize World.alloc w _ = W at *
  have k0 := HK0.out.cell
  have l0 := HK0.out.lt
  go_wp2_with fail
  refine (HC.out _ HB.out).mono ?_
  rintro e w1 ⟨s, rfl, ⟨A2, c2, A3, c3, Ab, nb, cb, Ai, ni, ci, Ao, no, co, rfl, ho, hsp⟩, hb⟩
  have HB1 := Lib.hid (bthen HB.out hb)
  have hba := below_alloc' w1 (.cells #[.int .i64 ns.length, .slice A0 ns.length c0, .slice A1 6 c1, .slice A2 ns.length c2, .slice A3 (acn ns us f) c3, .slice Ab nb cb, .slice Ai ni ci, .slice Ao no co] 66)
  have HSP := Lib.hid (hsp.below hba)
  have HB2 := Lib.hid (bthen HB1.out hba)
  have HK2 := Lib.hid (Blk.new w1 66 #[.int .i64 ns.length, .slice A0 ns.length c0, .slice A1 6 c1, .slice A2 ns.length c2, .slice A3 (acn ns us f) c3, .slice Ab nb cb, .slice Ai ni ci, .slice Ao no co])
  clear ho hsp hb k0 l0 hba
  go_upto_region 4 with fail
  generalize World.alloc w1 _ = w2 at *
  have k0 := HK2.out.cell
  have l0 := HK2.out.lt
  go_wp2_with fail
  refine (HCh.out _ _ _ _ _ _ _ _ _ _ _ _ _ _ HSP.out).mono ?_
  rintro e w3 ⟨rfl, hb⟩
  have HB3 := Lib.hid (bthen HB2.out hb)
  clear hb k0 l0
  by_cases hk : 30 < k
  · have HN1 : Hid (cfN k = 0) := Lib.hid (by unfold cfN; rw [if_pos hk])
    have HN2 : Hid (cfC k = 3) := Lib.hid (by unfold cfC; rw [if_pos hk])
    have hk2 : (30 : Int) < (k : Int) := by omega
    go_wp2
    go_ret2
    exact ⟨by rw [HN1.out, HN2.out]; rfl, HB3.out⟩
  · have HN1 : Hid (cfN k = 2 ^ k) := Lib.hid (by unfold cfN; rw [if_neg hk])
    have HN2 : Hid (cfC k = 0) := Lib.hid (by unfold cfC; rw [if_neg hk])
    have hk2 : ¬ (30 : Int) < (k : Int) := by omega
    have HOne := Lib.hid (fun W => spec_l01One (k : Int) W (by omega) (by omega))
    go_wp2_with fail
    refine (HOne.out _).mono ?_
    rintro e w4 ⟨rfl, rfl⟩
    go_wp2
    go_ret2
    exact ⟨by rw [HN1.out, HN2.out]; rfl, HB3.out⟩
set_option maxRecDepth 100000 in
theorem spec_CountFiltrations_bad (n : Int) (va vu vf : Value) (xs vs : List Int) (zs : List Nd) (w : World) (ha : Sl cI w va xs) (hu : Sl cI w vu vs) (hf : Sl cN w vf zs) (hl : xs.length ≤ 1048576) (hl' : vs.length ≤ 1048576) (hl2 : zs.length ≤ 1048576) (hc : mdOk n xs vs = false ∨ (mdOk n xs vs = true ∧ isF zs = false)) :
    Calls Tryz.prog 10 #[.agg #[.int .i64 n, va, vu], vf] w fun e w' => e = .returned (.tuple #[.int .i64 0, .int .i64 1]) ∧ Below w.heap.size w w' := by
  obtain ⟨A0, c0, rfl⟩ := ha.opn
  obtain ⟨A1, c1, rfl⟩ := hu.opn
  have hb0 := below_alloc' w (.cells #[.int .i64 n, .slice A0 xs.length c0, .slice A1 vs.length c1] 28)
  have hk0 := Blk.new w 28 #[.int .i64 n, .slice A0 xs.length c0, .slice A1 vs.length c1]
  have HB := Lib.hid hb0
  have HK0 := Lib.hid hk0
  have HC := Lib.hid (fun W (hW : Below w.heap.size w W) => spec_l14Code_bad n _ _ vf xs vs zs W (ha.below hW) (hu.below hW) (hf.below hW) hl hl' hl2 hc)
  clear ha hu hf hb0 hk0 hc
  go_enter Tryz.func10, Tryz.ntmps10
  go_upto_region 1 with fail
  generalize World.alloc w _ = W at *
  have k0 := HK0.out.cell
  have l0 := HK0.out.lt
  go_wp2_with fail
  refine (HC.out _ HB.out).mono ?_
  rintro e w1 ⟨rfl, hb⟩
  have HB1 := Lib.hid (bthen HB.out hb)
  clear hb k0
  go_wp2
  go_ret2
  exact ⟨rfl, HB1.out.alloc (by have := HB1.out.size; omega) _⟩
end Go.Proofs.YtnolbgdbboiehaaGreatDoor

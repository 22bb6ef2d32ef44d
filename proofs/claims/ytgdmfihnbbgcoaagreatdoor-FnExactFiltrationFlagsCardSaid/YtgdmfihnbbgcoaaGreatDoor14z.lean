/- Contracts of chapter 14: the number of filtrations, of the program and of the reference. -/
import Derived.Test.YtgdmfihnbbgcoaaGreatDoor14v
import Derived.Test.YtgdmfihnbbgcoaaGreatDoor14y
import Derived.Test.YtgdmfihnbbgcoaaGreatDoorM14t
import Derived.Test.YtgdmfihnbbgcoaaGreatDoorSch
namespace Go.Proofs.YtgdmfihnbbgcoaaGreatDoor
open Go.RowKit
set_option linter.unusedVariables false
set_option linter.unusedSimpArgs false
def ocF (m : Int) : Int :=
  (fun x6 => bits .and .i64 (wrap64 x6) 127) ((fun x5 => IntKind.u64.wrap (x5 + x5 / 4294967296)) ((fun x4 => IntKind.u64.wrap (x4 + x4 / 65536)) ((fun x3 => IntKind.u64.wrap (x3 + x3 / 256))
    ((fun x2 => bits .and .u64 (IntKind.u64.wrap (x2 / 16 + x2)) 1085102592571150095) ((fun x1 => IntKind.u64.wrap (bits .and .u64 (x1 / 4) 3689348814741910323 + bits .and .u64 x1 3689348814741910323)) (IntKind.u64.wrap (bits .and .u64 (m / 2) 6148914691236517205 + bits .and .u64 m 6148914691236517205)))))))
theorem ocF_pc : ∀ m : Nat, m < 256 → ocF m = (pc m : Int) := by decide +kernel
theorem bits_OnesCount64 (m : Nat) (w : World) (hm : m < 256) :
    Calls Tryz.prog 146 #[.int .u64 (m : Int)] w fun e w' => e = .returned (.int .i64 (pc m : Nat)) ∧ w = w' := by
  have HP := Lib.hid (ocF_pc m hm)
  go_enter Tryz.func146, Tryz.ntmps146
  go_wp2
  go_ret
  exact ⟨congrArg (fun x => Ending.returned (.int .i64 x)) HP.out, rfl⟩
theorem impl_countMembers (m : Nat) (w : World) (hm : m < 256) :
    Calls Tryz.prog 113 #[.int .i64 (m : Int)] w fun e w' => e = .returned (.int .i64 (pc m : Nat)) ∧ w = w' := by
  have HC := Lib.hid (bits_OnesCount64 m w hm)
  go_enter Tryz.func113, Tryz.ntmps113
  go_wp2_with fail
  refine HC.out.mono ?_
  rintro e w1 ⟨rfl, rfl⟩
  go_wp2
  go_ret
  exact ⟨rfl, rfl⟩
set_option maxHeartbeats 1000000 in
set_option maxRecDepth 100000 in
theorem impl_choice (ns us : List Nat) (f : Fm) (F : Nat) (A0 A1 A : Option Addr) (c0 c1 cc : Nat) (sf bx dm : Value) (w : World) (h : Fil w F ns us f A0 A1 A c0 c1 cc sf bx dm) (h1 : MdN ns us) (hl : (enc f).length ≤ 1000) :
    Calls Tryz.prog 86 #[.pointer (some ⟨F, 0, none⟩)] w fun e w' => e = .returned (.int .i64 (chc ns us f : Nat)) ∧ Below w.heap.size w w' := by
  have HF := Lib.hid h
  have H1 := Lib.hid h1
  have HL := Lib.hid hl
  clear h h1 hl
  go_enter Tryz.func86, Tryz.ntmps86
  go_wp2_with fail
  refine (impl_least ns us f F A0 A1 A c0 c1 cc sf bx dm _ HF.out H1.out.r).mono ?_
  rintro e w1 ⟨B, d, rfl, ho, hb⟩
  have O1 := Lib.hid ho
  have HB1 := Lib.hid hb
  clear ho hb
  go_wp2_with fail
  refine (impl_greatest ns us f F A0 A1 A c0 c1 cc sf bx dm _ (HF.out.below HB1.out) H1.out HL.out).mono ?_
  rintro e w2 ⟨B', d', rfl, ho, hb⟩
  have O2 := Lib.hid ho
  have O3 := Lib.hid (O1.out.below hb)
  have HB2 := Lib.hid (bthen HB1.out hb)
  clear ho hb
  go_upto_region 2 with fail
  have hba := below_alloc' w2 (.cells #[.int .i64 (acn ns us f : Nat), .slice B (acn ns us f) d] 31)
  have hka := Blk.new w2 31 #[.int .i64 (acn ns us f : Nat), .slice B (acn ns us f) d]
  have hbb := below_alloc' (w2.alloc (.cells #[.int .i64 (acn ns us f : Nat), .slice B (acn ns us f) d] 31)) (.cells #[.int .i64 (acn ns us f : Nat), .slice B' (acn ns us f) d'] 31)
  have hkb : Blk _ (w2.heap.size + 1) _ _ := Blk.new' (w2.alloc (.cells #[.int .i64 (acn ns us f : Nat), .slice B (acn ns us f) d] 31)) 31 #[.int .i64 (acn ns us f : Nat), .slice B' (acn ns us f) d'] (by simp)
  have HB3 := Lib.hid (bthen HB2.out (bthen hba hbb))
  have HKa := Lib.hid (hka.below hbb hka.lt)
  have HKb := Lib.hid hkb
  have S1 := Lib.hid ((O3.out.below hba).below hbb).sl
  have S2 := Lib.hid ((O2.out.below hba).below hbb).sl
  clear hba hka hbb hkb O1 O2 O3
  generalize World.alloc (w2.alloc _) _ = w3 at *
  have E3 := Lib.hid (show (li (lst ns us f)).length = acn ns us f by rw [li_length, lst_length])
  have E4 := Lib.hid (show (li (gre ns us f)).length = acn ns us f by rw [li_length, gre_length])
  have HNN := Lib.hid (Nat.le_trans (acn_le ns us f) H1.out.r.1)
  have HLT := Lib.hid (lst_lt ns us f)
  have HGT := Lib.hid (gre_lt ns us f)
  have HP : Hid (chc ns us f = chTo (lst ns us f) (gre ns us f) (acn ns us f)) := Lib.hid rfl
  have HCL := Lib.hid (chTo_le (lst ns us f) (gre ns us f))
  have HST : Hid (∀ k, chTo (lst ns us f) (gre ns us f) (k + 1) = chTo (lst ns us f) (gre ns us f) k + pc (andnot ((gre ns us f).getD k 0) ((lst ns us f).getD k 0))) := Lib.hid fun k => rfl
  have HZ : Hid (chTo (lst ns us f) (gre ns us f) 0 = 0) := Lib.hid rfl
  have ka := HKa.out.cell
  have kb := HKb.out.cell
  have la := HKa.out.lt
  have lb := HKb.out.lt
  have a1 : w3.cell? ⟨w2.heap.size, 1, none⟩ = some (.slice B (acn ns us f) d) := ka 1
  have b1 : w3.cell? ⟨w2.heap.size + 1, 1, none⟩ = some (.slice B' (acn ns us f) d') := kb 1
  clear ka kb
  generalize lst ns us f = lo at *
  generalize gre ns us f = hi at *
  generalize chTo lo hi = ct at *
  generalize acn ns us f = n at *
  have hn8 : n ≤ 8 := HNN.out
  go_wp2
  go_loop [5, 15] (fun t i => ∃ j : Nat, j ≤ n ∧ i = .int .i64 j ∧ t = .int .i64 (ct j : Nat)) (fun _ i => n - (intOf i).toNat)
  case atStart => exact ⟨0, Nat.zero_le _, rfl, by rw [HZ.out]; rfl⟩
  case round =>
    obtain ⟨j, hj, rfl, rfl⟩ := hrel
    by_cases hlt : j < n
    · obtain ⟨g1, o1, rfl, t1, f1⟩ := (show Sl cI w3 (.slice B (li lo).length d) _ by rw [E3.out]; exact S1.out).atI (k := j) (by rw [E3.out]; exact hlt)
      obtain ⟨g2, o2, rfl, t2, f2⟩ := (show Sl cI w3 (.slice B' (li hi).length d') _ by rw [E4.out]; exact S2.out).atI (k := j) (by rw [E4.out]; exact hlt)
      rw [li_get] at f1 f2
      have h256 : ∀ {l : List Nat}, (∀ x ∈ l, x < 2 ^ n) → ∀ i, l.getD i 0 < 256 := fun h i => Nat.lt_of_lt_of_le (getD_lt h i) (two_pow_256 hn8)
      have q1 := h256 HLT.out j
      have q2 := h256 HGT.out j
      have HS := Lib.hid (HST.out j)
      obtain ⟨m1, hm1⟩ : ∃ m, lo.getD j 0 = m := ⟨_, rfl⟩
      obtain ⟨m2, hm2⟩ : ∃ m, hi.getD j 0 = m := ⟨_, rfl⟩
      rw [hm1] at f1 q1 HS
      rw [hm2] at f2 q2 HS
      have E := i64_andNot_nat m2 m1 (by omega) (by omega)
      have hq : andnot m2 m1 < 256 := andnot_lt (k := 8) q2
      have hc := HCL.out j
      have hp := pcTo_le (andnot m2 m1) 8
      have HQ : Hid (pcTo (andnot m2 m1) 8 = pc (andnot m2 m1)) := Lib.hid rfl
      rw [HQ.out] at hp
      clear hm1 hm2 h256
      have HCM := Lib.hid (fun W => impl_countMembers (andnot m2 m1) W hq)
      generalize andnot m2 m1 = z at *
      generalize pc z = p at *
      generalize ct j = q at *
      go_wp2_with fail
      refine (HCM.out _).mono ?_
      rintro e w4 ⟨rfl, rfl⟩
      go_wp2
      go_round
      case rel => exact ⟨j + 1, by omega, by go_num, by rw [HS.out]; go_num⟩
      case measure => simp [intOf]; omega
    · obtain rfl : j = n := by omega
      go_wp2
      go_ret
      exact ⟨by rw [HP.out]; rfl, HB3.out⟩
end Go.Proofs.YtgdmfihnbbgcoaaGreatDoor

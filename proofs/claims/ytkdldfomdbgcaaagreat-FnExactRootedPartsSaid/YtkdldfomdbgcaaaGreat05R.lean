/- Contracts of chapters 1, 5 and 6: what is reached, parts of masks, of relations and of models, both sides. -/
import Derived.Test.YtkdldfomdbgcaaaGreatM05r
import Derived.Test.YtkdldfomdbgcaaaGreatFD
import Derived.Test.YtkdldfomdbgcaaaGreatQU
import Derived.Test.YtkdldfomdbgcaaaGreatSch
namespace Go.Proofs.YtkdldfomdbgcaaaGreat
open Go.RowKit
set_option linter.unusedVariables false
set_option linter.unusedSimpArgs false
theorem mems8 {m n : Nat} (hm : m < 2 ^ n) : (mems m).length ≤ n := mems_le hm
theorem sqTo_lt (m : Nat) (xs : List Int) (k : Nat) : sqTo m xs k < 2 ^ k := by rw [sqTo_msk]; exact msk_lt _ _
theorem impl_squeeze (m on : Nat) (w : World) (hm : m < 256) (ho : on < 256) :
    Calls Tryz.prog 163 #[.int .i64 m, .int .i64 on] w fun e w' => e = .returned (.int .i64 (sqz m on : Nat)) ∧ Below w.heap.size w w' := by
  have HM8 := Lib.hid (mems8 (n := 8) ho)
  have HMM := Lib.hid (fun x (hx : x ∈ mems on) => mems_mem (n := 8) ho hx)
  have HE : Hid (sqTo m (mems on) (mems on).length = sqz m on) := Lib.hid rfl
  have HST : Hid (∀ k, sqTo m (mems on) (k + 1) = sqTo m (mems on) k ||| if m.testBit ((mems on).getD k 0).toNat then 2 ^ k else 0) := Lib.hid fun k => rfl
  have HZ : Hid (sqTo m (mems on) 0 = 0) := Lib.hid rfl
  have HLT := Lib.hid (sqTo_lt m (mems on))
  go_enter Tryz.func163, Tryz.ntmps163
  go_wp2_with fail
  refine (impl_membersOf on _ (by omega)).mono ?_
  rintro e w1 ⟨vm, rfl, hv, hb⟩
  obtain ⟨A2, c2, rfl⟩ := hv.opn
  have hms := hv.sl
  have HB := Lib.hid hb
  clear hv hb
  generalize mems on = ms at *
  have h8 := HM8.out
  go_wp2
  go_loop [5, 11] (fun t i => ∃ j : Nat, j ≤ ms.length ∧ i = .int .i64 j ∧ t = .int .i64 (sqTo m ms j : Nat)) (fun _ i => ms.length - (intOf i).toNat)
  case atStart => exact ⟨0, Nat.zero_le _, rfl, by rw [HZ.out]; rfl⟩
  case round =>
    obtain ⟨j, hj, rfl, rfl⟩ := hrel
    by_cases hlt : j < ms.length
    · obtain ⟨b, o, rfl, hbl, hc0⟩ := hms.atI hlt
      obtain ⟨x, hxx, hxn⟩ := HMM.out ms[j] (List.getElem_mem hlt)
      have HS : Hid (sqTo m ms (j + 1) = sqTo m ms j ||| if m.testBit x then 2 ^ j else 0) := Lib.hid (by rw [HST.out, List.getD_eq_getElem?_getD, List.getElem?_eq_getElem hlt, Option.getD_some, hxx, Int.toNat_natCast])
      rw [hxx] at hc0
      have hq : sqTo m ms j < 256 := Nat.lt_of_lt_of_le (HLT.out j) (show 2 ^ j ≤ 2 ^ 8 from Nat.pow_le_pow_right (by omega) (by omega))
      clear hxx
      generalize sqTo m ms j = q at *
      go_wp2_with fail
      refine (impl_has m x _ (by omega) (by omega)).mono ?_
      rintro e w2 ⟨rfl, rfl⟩
      cases ht : m.testBit x
      · rw [ht] at HS
        clear ht
        go_wp2
        go_round
        case rel => exact ⟨j + 1, by omega, by go_num, by rw [HS.out]; simp⟩
        case measure => simp [intOf]; omega
      · rw [ht] at HS
        clear ht
        have e1 := wrap_two_pow (n := j) (by omega)
        have e2 := i64_or_nat q (2 ^ j) (by omega) (two_pow_lt (by omega))
        rw [← cast_two_pow] at e2
        go_wp2
        go_round
        case rel => exact ⟨j + 1, by omega, by go_num, by rw [HS.out]; simp⟩
        case measure => simp [intOf]; omega
    · have HE2 : Hid (sqTo m ms j = sqz m on) := Lib.hid (by rw [← HE.out]; congr 1; omega)
      go_wp2
      go_ret
      exact ⟨by rw [HE2.out]; rfl, HB.out⟩
theorem ptr_take (ns : List Nat) (on j : Nat) (h : j < (mems on).length) : (ptr ns on).take (j + 1) = (ptr ns on).take j ++ [sqz (ns.getD ((mems on)[j]).toNat 0) on] := by
  unfold ptr
  rw [List.take_succ_eq_append_getElem (by simpa using h), List.getElem_map]
set_option maxRecDepth 100000 in
theorem impl_partOn (v : Value) (ns : List Nat) (on : Nat) (w : World) (h : Sl cI w v (li ns)) (hr : RelN ns) (ho : on < 2 ^ ns.length) :
    Calls Tryz.prog 122 #[v, .int .i64 on] w fun e w' => ∃ u, e = .returned u ∧ Ow cI 2 w.heap.size w' u (li (ptr ns on)) ∧ Below w.heap.size w w' := by
  have h8 := hr.1
  have EL := Lib.hid (li_length ns)
  obtain ⟨A, c, rfl⟩ := h.opn
  rw [EL.out] at h ⊢
  have ho256 := Nat.lt_of_lt_of_le ho (two_pow_256 h8)
  have HML := Lib.hid (mems8 ho)
  have HMM := Lib.hid (fun x (hx : x ∈ mems on) => mems_mem ho hx)
  have HX := Lib.hid (fun i => Nat.lt_of_lt_of_le (getD_lt hr.2 i) (two_pow_256 h8))
  have HT := Lib.hid (fun j hj => ptr_take ns on j hj)
  have HTA : Hid ((ptr ns on).take (mems on).length = ptr ns on) := Lib.hid (List.take_of_length_le (by rw [ptr_length]; exact Nat.le_refl _))
  have HTL : Hid (∀ j, j ≤ (mems on).length → (li ((ptr ns on).take j)).length = j) := Lib.hid (fun j hj => by rw [li_length, List.length_take, ptr_length]; omega)
  have H0 := Lib.hid h
  clear h hr ho
  generalize ptr ns on = pt at *
  go_enter Tryz.func122, Tryz.ntmps122
  go_wp2_with fail
  refine (impl_membersOf on _ (by omega)).mono ?_
  rintro e w1 ⟨vm, rfl, hv, hb⟩
  obtain ⟨A2, c2, rfl⟩ := hv.opn
  have HMs := Lib.hid hv.sl
  have HB := Lib.hid hb
  clear hv hb
  generalize mems on = ms at *
  have hm8 := HML.out
  go_wp2
  go_loopw [5, 11] (fun ov i wr => ∃ j : Nat, j ≤ ms.length ∧ i = .int .i64 j ∧ Ow cI 2 w1.heap.size wr ov (li (pt.take j)) ∧ Below w1.heap.size w1 wr) (fun _ i _ => ms.length - (intOf i).toNat)
  case atStart => exact ⟨0, Nat.zero_le _, rfl, Ow.nil _ _, Below.refl _ _⟩
  case round =>
    obtain ⟨j, hj, rfl, hov, hb2⟩ := hrel
    have hb : Below w.heap.size w wr := HB.out.trans (hb2.mono HB.out.size)
    have HBr := Lib.hid hb
    have HBr2 := Lib.hid hb2
    obtain ⟨Av, cv, rfl⟩ := hov.opn
    rw [HTL.out j hj] at hov ⊢
    have HOV := Lib.hid hov
    clear hov
    by_cases hlt : j < ms.length
    · obtain ⟨x, hxx, hxn⟩ := HMM.out ms[j] (List.getElem_mem hlt)
      obtain ⟨b, o, rfl, hbl, hc0⟩ := (HMs.out.below hb2).atI hlt
      obtain ⟨b2, o2, rfl, hbl2, hd0⟩ := (show Sl cI wr (.slice A (li ns).length c) (li ns) by rw [EL.out]; exact H0.out.below hb).atI (k := x) (by rw [EL.out]; exact hxn)
      have HS := Lib.hid (HT.out j hlt)
      rw [hxx] at hc0
      rw [hxx, Int.toNat_natCast] at HS
      rw [li_get] at hd0
      have hx256 := HX.out x
      have HL := Lib.hid (HTL.out j (by omega))
      have hxn2 : (x : Int) < (ns.length : Int) := by omega
      obtain ⟨m, hmm⟩ : ∃ m, ns.getD x 0 = m := ⟨_, rfl⟩
      rw [hmm] at hd0 hx256 HS
      clear hxx hmm hb hb2
      go_wp2_with fail
      refine (impl_squeeze m on _ hx256 ho256).mono ?_
      rintro e w2 ⟨rfl, hb⟩
      have HB2 := Lib.hid (bthen HBr.out hb)
      have HB3 := Lib.hid (bthen HBr2.out hb)
      have HOV2 := Lib.hid (HOV.out.below hb)
      clear hb hc0 hd0
      obtain ⟨xs, hxs⟩ : ∃ xs, li (pt.take j) = xs := ⟨_, rfl⟩
      rw [hxs] at HOV2 HL
      have HXE : Hid (li (pt.take (j + 1)) = xs ++ [((sqz m on : Nat) : Int)]) := Lib.hid (by rw [HS.out]; unfold li; rw [List.map_append, ← hxs]; rfl)
      clear hxs
      go_wp2_with (at_builtin; refine stopHere ?_)
      refine goHere ?_
      refine ap_one (K := cI) _ ty_int64 rfl _ _ rfl (B := w1.heap.size) (xs := xs) rfl HOV2.out ((sqz m on : Nat) : Int) rfl rfl (by have := HL.out; omega) HB3.out.size ?_
      intro v1 w3 ho1 hg1 hb1 hat1
      have HO1 : Hid (Ow cI 2 w1.heap.size w3 v1 (li (pt.take (j + 1)))) := Lib.hid (by rw [HXE.out]; exact ho1)
      have HB5 : Hid (Below w1.heap.size w1 w3) := Lib.hid (HB3.out.trans hb1)
      clear ho1 hg1 hb1 hat1
      go_wp2
      go_roundw
      case rel => exact ⟨j + 1, by omega, by go_num, HO1.out, HB5.out⟩
      case measure => simp [intOf]; omega
    · obtain rfl : j = ms.length := by omega
      rw [HTA.out] at HOV
      clear hb hb2
      go_wp2
      go_ret
      exact ⟨_, rfl, HOV.out.mono HB.out.size, HBr.out⟩
end Go.Proofs.YtkdldfomdbgcaaaGreat

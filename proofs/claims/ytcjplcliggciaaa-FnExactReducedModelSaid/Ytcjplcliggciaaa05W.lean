/- Contracts of chapters 5 and 7, of the reference: PartOfModel and ReducedModel. -/
import Derived.Test.Ytcjplcliggciaaa05V
import Derived.Test.Ytcjplcliggciaaa05T
import Derived.Test.Ytcjplcliggciaaa07u
namespace Go.Proofs.Ytcjplcliggciaaa
open Go.RowKit
set_option linter.unusedVariables false
set_option linter.unusedSimpArgs false
set_option maxHeartbeats 2000000 in
set_option maxRecDepth 100000 in
theorem spec_PartOfModel_ok (ns us : List Nat) (on F : Nat) (A0 A1 : Option Addr) (c0 c1 : Nat) (w : World) (hm : Mdl w (.slice A0 ns.length c0) (.slice A1 6 c1) ns us) (h1 : MdN ns us) (hok : mdOk ns.length (li ns) (li us) = true) (hon : on < 2 ^ ns.length) :
    Calls Try.prog 82 #[.agg #[.int .i64 ns.length, .slice A0 ns.length c0, .slice A1 6 c1], .int .i64 on] w
      fun e w' => ∃ B1 d1 B2 d2, e = .returned (.tuple #[.agg #[.int .i64 (ptr ns on).length, .slice B1 (ptr ns on).length d1, .slice B2 6 d2], .int .i64 0]) ∧ Mdl w' (.slice B1 (ptr ns on).length d1) (.slice B2 6 d2) (ptr ns on) (ptv us on) ∧ Below w.heap.size w w' := by
  have h8 := h1.r.1
  have ho256 := Nat.lt_of_lt_of_le hon (two_pow_256 h8)
  have hb0 := below_alloc' w (.cells #[.int .i64 ns.length, .slice A0 ns.length c0, .slice A1 6 c1] 62)
  have hk0 := Blk.new w 62 #[.int .i64 ns.length, .slice A0 ns.length c0, .slice A1 6 c1]
  have hb1 := below_alloc' (w.alloc (.cells #[.int .i64 ns.length, .slice A0 ns.length c0, .slice A1 6 c1] 62)) (.cells #[.int .i64 0, .slice none 0 0, .slice none 0 0] 62)
  have hk1 : Blk _ (w.heap.size + 1) _ _ := Blk.new' (w.alloc (.cells #[.int .i64 ns.length, .slice A0 ns.length c0, .slice A1 6 c1] 62)) 62 #[.int .i64 0, .slice none 0 0, .slice none 0 0] (by simp)
  have HB := Lib.hid (bthen hb0 hb1)
  have HK0 := Lib.hid (hk0.below hb1 hk0.lt)
  have HK1 := Lib.hid hk1
  have E1 := Lib.hid (li_length ns)
  have E2 := Lib.hid (show (li us).length = 6 by rw [li_length, h1.l])
  have HI := Lib.hid (fun W (hW : Below w.heap.size w W) => hok ▸ spec_l06Is ns.length _ _ (li ns) (li us) W (hm.a.below hW) (hm.u.below hW) (by rw [E1.out]; omega) (by rw [E2.out]; omega))
  have HSt := Lib.hid (fun W => spec_l05Set_in ns.length on _ (.slice A0 ns.length c0) A0 ns.length c0 rfl W h8 rfl hon)
  have HLi := Lib.hid (fun W => spec_l01List on W (by omega))
  have HSq := Lib.hid (fun v m W (hW : Sl cI W v (mems on)) (hm : m < 256) => spec_l05Squeeze v m on W hW hm ho256)
  have HPa := Lib.hid (fun W (hW : Below w.heap.size w W) => spec_l05Part _ ns on W (hm.a.below hW) h1.r hon)
  have HX := Lib.hid (fun j => Nat.lt_of_lt_of_le (getD_lt h1.b j) (two_pow_256 h8))
  have HU := Lib.hid hm.u
  have HT := Lib.hid (fun (j : Nat) (hj : j < 6) => ptv_take us on (j := j) (by rw [h1.l]; exact hj))
  have HT0 := Lib.hid (show (ptv us on).take 6 = ptv us on from List.take_of_length_le (by rw [ptv_length, h1.l]; exact Nat.le_refl _))
  have HTL := Lib.hid (fun (j : Nat) (hj : j ≤ 6) => show (li ((ptv us on).take j)).length = j by rw [li_length, List.length_take, ptv_length, h1.l]; omega)
  have LP := Lib.hid (li_length (ptr ns on))
  have HFN : Hid (2 ^ ns.length - 1 < 256) := Lib.hid (by have := two_pow_256 h8; omega)
  clear hb0 hb1 hk0 hk1 hm h1 hon hok
  generalize hpt : ptr ns on = pt at *
  generalize hpv : ptv us on = pv at *
  generalize hms : mems on = ms at *
  clear hpv hpt hms
  go_enter Try.func82, Try.ntmps82
  go_upto_region 1 with fail
  generalize World.alloc (w.alloc _) _ = W at *
  have k0 := HK0.out.cell
  have l0 := HK0.out.lt
  go_wp2_with fail
  refine (HI.out _ HB.out).mono ?_
  rintro e w1 ⟨rfl, hb⟩
  have HB1 := Lib.hid (bthen HB.out hb)
  have HKa := Lib.hid (HK0.out.below hb l0)
  have HKb := Lib.hid (HK1.out.below hb HK1.out.lt)
  clear k0 l0 hb HK0 HK1 HB HI
  have k0 := HKa.out.cell
  have l0 := HKa.out.lt
  go_wp2_with fail
  refine (HSt.out _).mono ?_
  rintro e w2 ⟨rfl, hb⟩
  have HB2 := Lib.hid (bthen HB1.out hb)
  have HKc := Lib.hid (HKa.out.below hb l0)
  have HKd := Lib.hid (HKb.out.below hb HKb.out.lt)
  clear k0 l0 hb HKa HKb HB1 HSt
  go_wp2_with fail
  refine (HLi.out _).mono ?_
  rintro e w3 ⟨vm, rfl, hv, hb⟩
  obtain ⟨A2, c2, rfl⟩ := hv.opn
  have HMs := Lib.hid hv.sl
  have HB3 := Lib.hid (bthen HB2.out hb)
  have HKe := Lib.hid (HKc.out.below hb HKc.out.lt)
  have HKf := Lib.hid (HKd.out.below hb HKd.out.lt)
  clear hv hb HB2 HKc HKd HLi
  go_wp2
  go_loopw [7, 8] (fun ov i wr => ∃ j : Nat, j ≤ 6 ∧ i = .int .i64 j ∧ Ow cI 2 w3.heap.size wr ov (li (pv.take j)) ∧ Below w3.heap.size w3 wr) (fun _ i _ => 6 - (intOf i).toNat)
  case atStart => exact ⟨0, Nat.zero_le _, rfl, Ow.lit [] rfl rfl (Nat.le_refl _), (Below.refl _ _).alloc (Nat.le_refl _) _⟩
  case round =>
    obtain ⟨j, hj, rfl, hov, hb2⟩ := hrel
    have hb : Below w.heap.size w wr := HB3.out.trans (hb2.mono HB3.out.size)
    have HBr := Lib.hid hb
    have HBr2 := Lib.hid hb2
    have hszr := hb2.size
    obtain ⟨Av, cv, rfl⟩ := hov.opn
    rw [HTL.out j hj] at hov ⊢
    have HOV := Lib.hid hov
    have HKr := Lib.hid (HKe.out.below hb2 HKe.out.lt)
    have HKs := Lib.hid (HKf.out.below hb2 HKf.out.lt)
    have k0 := HKr.out.cell 0
    have k1 := HKr.out.cell 1
    have k2 := HKr.out.cell 2
    simp only [List.getElem?_toArray, List.getElem?_cons_zero, List.getElem?_cons_succ] at k0 k1 k2
    have l1 := HKr.out.lt
    clear hov
    by_cases hlt : j < 6
    · obtain ⟨b, o, hA1, hbl, hc0⟩ := (show Sl cI wr (.slice A1 (li us).length c1) (li us) by rw [E2.out]; exact HU.out.below hb).atI (k := j) (by rw [E2.out]; exact hlt)
      subst hA1
      rw [li_get] at hc0
      have hx256 := HX.out j
      have HS := Lib.hid (HT.out j hlt)
      have HL := Lib.hid (HTL.out j (by omega))
      have hjn2 : (j : Int) < 6 := by omega
      obtain ⟨m, hmm⟩ : ∃ m, us.getD j 0 = m := ⟨_, rfl⟩
      rw [hmm] at hc0 hx256 HS
      have HMr := Lib.hid (HMs.out.below hb2)
      obtain ⟨xs, hxs⟩ : ∃ xs, li (pv.take j) = xs := ⟨_, rfl⟩
      rw [hxs] at HOV HL
      have HXE : Hid (li (pv.take (j + 1)) = xs ++ [((sqz m on : Nat) : Int)]) := Lib.hid (by rw [HS.out]; unfold li; rw [List.map_append, ← hxs]; rfl)
      clear hmm hb hb2 hxs
      go_wp2_with fail
      refine (HSq.out _ m _ HMr.out hx256).mono ?_
      rintro e w6 ⟨rfl, rfl⟩
      go_wp2_with (at_builtin; refine stopHere ?_)
      refine goHere ?_
      refine ap_one (K := cI) _ ty_int64 rfl _ _ rfl (B := w3.heap.size) (xs := xs) rfl HOV.out ((sqz m on : Nat) : Int) rfl rfl (by have := HL.out; omega) hszr ?_
      intro v1 w8 ho1 hg1 hb1 hat1
      have HO1 : Hid (Ow cI 2 w3.heap.size w8 v1 (li (pv.take (j + 1)))) := Lib.hid (by rw [HXE.out]; exact ho1)
      have HB5 : Hid (Below w3.heap.size w3 w8) := Lib.hid (HBr2.out.trans hb1)
      clear ho1 hg1 hb1 hat1 hc0 k0 k1 k2
      go_wp2
      go_roundw
      case rel => exact ⟨j + 1, by omega, by go_num, HO1.out, HB5.out⟩
      case measure => simp [intOf]; omega
    · obtain rfl : j = 6 := by omega
      rw [HT0.out] at HOV
      clear hb hb2
      go_wp2_with fail
      refine (HPa.out _ HBr.out).mono ?_
      rintro e w5 ⟨u, rfl, ho, hb⟩
      obtain ⟨A5, c5, rfl⟩ := ho.opn
      rw [LP.out] at ho ⊢
      have hr1 := HKs.out.below hb HKs.out.lt
      have rc := hr1.cell
      have rf := hr1.frozen
      have rl := hr1.lt
      have hlr := HKs.out.lt
      have hlf := HKf.out.lt
      have Z1 := Lib.hid (show Ow cI 2 (w.heap.size + 2) w5 _ _ from ho.mono hlr)
      have Z3 := Lib.hid (show Ow cI 2 (w.heap.size + 2) w5 _ _ from (HOV.out.below hb).mono hlf)
      have Z2 := Lib.hid (bthen HBr.out hb)
      clear ho hb hr1 k0 k1 k2
      go_wp2
      refine bodyPost_ret (v := .tuple #[.agg #[.int .i64 pt.length, .slice A5 pt.length c5, .slice Av 6 cv], .int .i64 0]) (by simp [results, Try.results82, go_sem, rc, rf, rl]) rfl ⟨_, _, _, _, rfl, ⟨?_, ?_⟩, ?_⟩
      · exact (((Z1.out.setBelow (Nat.lt_succ_self _) _).setBelow (Nat.lt_succ_self _) _).setBelow (Nat.lt_succ_self _) _).sl
      · exact (((Z3.out.setBelow (Nat.lt_succ_self _) _).setBelow (Nat.lt_succ_self _) _).setBelow (Nat.lt_succ_self _) _).sl
      · exact ((Z2.out.setCell (Nat.le_succ _) _).setCell (Nat.le_succ _) _).setCell (Nat.le_succ _) _
end Go.Proofs.Ytcjplcliggciaaa

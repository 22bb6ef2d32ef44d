/- Contracts of chapter 14: FiltrationModel where the frame is no filtration, both sides. -/
import Derived.Test.YtgdmfihnbbgcoaaGreatDoor14y
import Derived.Test.YtgdmfihnbbgcoaaGreatDoorM14t
namespace Go.Proofs.YtgdmfihnbbgcoaaGreatDoor
open Go.RowKit
set_option linter.unusedVariables false
set_option linter.unusedSimpArgs false
set_option maxHeartbeats 2000000 in
set_option maxRecDepth 100000 in
theorem spec_FiltrationModel_state (ns us gs : List Nat) (f : Fm) (A0 A1 A4 : Option Addr) (c0 c1 c4 : Nat) (v : Value) (w : World) (hm : Mdl w (.slice A0 ns.length c0) (.slice A1 6 c1) ns us) (h1 : MdN ns us) (h : Sl cN w v (enc f)) (hok : f.ok = true) (hl : (enc f).length ≤ 40) (hmk : mdOk ns.length (li ns) (li us) = true) (hfk : isF (enc f) = true) (hg : Sl cI w (.slice A4 gs.length c4) (li gs)) (hgr : RelN gs) (hfr : frOk gs.length (li gs) = true) (his : isf ns us f gs = false) :
    Calls Tryz.prog 9 #[.agg #[.int .i64 ns.length, .slice A0 ns.length c0, .slice A1 6 c1], v, .agg #[.int .i64 gs.length, .slice A4 gs.length c4]] w fun e w' => e = .returned (.tuple #[.agg #[.int .i64 0, .slice none 0 0, .slice none 0 0], .int .i64 5]) ∧ Below w.heap.size w w' := by
  obtain ⟨Af, cf, rfl⟩ := h.opn
  have hb0 := below_alloc' w (.cells #[.int .i64 ns.length, .slice A0 ns.length c0, .slice A1 6 c1] 33)
  have hk0 := Blk.new w 33 #[.int .i64 ns.length, .slice A0 ns.length c0, .slice A1 6 c1]
  have hb1 := below_alloc' (w.alloc (.cells #[.int .i64 ns.length, .slice A0 ns.length c0, .slice A1 6 c1] 33)) (.cells #[.int .i64 gs.length, .slice A4 gs.length c4] 31)
  have hk1 : Blk _ (w.heap.size + 1) _ _ := Blk.new' (w.alloc (.cells #[.int .i64 ns.length, .slice A0 ns.length c0, .slice A1 6 c1] 33)) 31 #[.int .i64 gs.length, .slice A4 gs.length c4] (by simp)
  have hb2 := below_alloc' ((w.alloc (.cells #[.int .i64 ns.length, .slice A0 ns.length c0, .slice A1 6 c1] 33)).alloc (.cells #[.int .i64 gs.length, .slice A4 gs.length c4] 31)) (.cells #[.int .i64 0, .slice none 0 0, .slice none 0 0] 33)
  have hk2 : Blk _ (w.heap.size + 2) _ _ := Blk.new' ((w.alloc (.cells #[.int .i64 ns.length, .slice A0 ns.length c0, .slice A1 6 c1] 33)).alloc (.cells #[.int .i64 gs.length, .slice A4 gs.length c4] 31)) 33 #[.int .i64 0, .slice none 0 0, .slice none 0 0] (by simp)
  have HB := Lib.hid (bthen (bthen hb0 hb1) hb2)
  have HK0 := Lib.hid ((hk0.below hb1 hk0.lt).below hb2 (hk0.below hb1 hk0.lt).lt)
  have HK1 := Lib.hid (hk1.below hb2 hk1.lt)
  have HK2 := Lib.hid hk2
  have H1 := Lib.hid h1
  have HG := Lib.hid hg
  have HGR := Lib.hid hgr
  have E4 := Lib.hid (li_length gs)
  have E2 := Lib.hid (show (li us).length = 6 by rw [li_length, h1.l])
  have HC := Lib.hid (fun W (hW : Below w.heap.size w W) => spec_l14Code_ok ns us f A0 A1 c0 c1 _ W (hm.below hW) h1 (h.below hW) hok hl hmk hfk)
  have HFR := Lib.hid (fun W (hW : Below w.heap.size w W) => hfr ▸ spec_l05Is gs.length _ (li gs) W (hg.below hW) (by rw [E4.out]; have := hgr.1; omega))
  have HVr := Lib.hid (fun W (hW : Below w.heap.size w W) => spec_l02Variables _ (enc f) W (h.below hW) (by omega) (isF_nodes hfk))
  have HOn := Lib.hid (fun W (hW : Below w.heap.size w W) => spec_l01Own _ (li gs) W (hg.below hW) (by rw [E4.out]; have := hgr.1; omega))
  have HU := Lib.hid hm.u
  have HV6 := Lib.hid (show vmask (enc f) < 2 ^ 6 from vmask_lt (enc f) (enc_nodes f hok))
  have HL := Lib.hid hl
  have HIS := Lib.hid his
  clear hb0 hb1 hk0 hk1 hb2 hk2 hm h hmk hfk h1 hl hg hgr hfr his
  go_enter Tryz.func9, Tryz.ntmps9
  go_upto_region 1 with fail
  generalize World.alloc (World.alloc (w.alloc _) _) _ = W at *
  have k0 := HK0.out.cell
  have l0 := HK0.out.lt
  go_wp2_with fail
  refine (HC.out _ HB.out).mono ?_
  rintro e w1 ⟨s, rfl, ⟨A2, c2, A3, c3, Ab, nb, cb, Ai, ni, ci, Ao, no, co, rfl, ho, hsp⟩, hb⟩
  have HB1 := Lib.hid (bthen HB.out hb)
  have hba := below_alloc' w1 (.cells #[.int .i64 ns.length, .slice A0 ns.length c0, .slice A1 6 c1, .slice A2 ns.length c2, .slice A3 (acn ns us f) c3, .slice Ab nb cb, .slice Ai ni ci, .slice Ao no co] 59)
  have hbk := Blk.new w1 59 #[.int .i64 ns.length, .slice A0 ns.length c0, .slice A1 6 c1, .slice A2 ns.length c2, .slice A3 (acn ns us f) c3, .slice Ab nb cb, .slice Ai ni ci, .slice Ao no co]
  have HBA := Lib.hid (bthen HB1.out hba)
  have HBK := Lib.hid hbk
  have HSQ := Lib.hid (hsp.below hba)
  have HK30 := Lib.hid ((HK0.out.below hb HK0.out.lt).below hba (HK0.out.below hb HK0.out.lt).lt)
  have HK31 := Lib.hid ((HK1.out.below hb HK1.out.lt).below hba (HK1.out.below hb HK1.out.lt).lt)
  have HK32 := Lib.hid ((HK2.out.below hb HK2.out.lt).below hba (HK2.out.below hb HK2.out.lt).lt)
  clear ho hsp hb hba hbk k0 l0 HK0 HK1 HK2 HB HB1
  go_upto_region 2 with fail
  generalize World.alloc w1 _ = w2 at *
  have k1 := HK31.out.cell
  have l1 := HK31.out.lt
  go_wp2_with fail
  refine (HFR.out _ HBA.out).mono ?_
  rintro e w3 ⟨rfl, hb⟩
  have HB3 := Lib.hid (bthen HBA.out hb)
  have HBK3 := Lib.hid (HBK.out.below hb HBK.out.lt)
  have HK40 := Lib.hid (HK30.out.below hb HK30.out.lt)
  have HK41 := Lib.hid (HK31.out.below hb HK31.out.lt)
  have HK42 := Lib.hid (HK32.out.below hb HK32.out.lt)
  have HS3 := Lib.hid (HSQ.out.below hb)
  clear hb k1 l1 HK30 HK31 HK32 HBK HSQ HBA HFR
  have kS := HBK3.out.cell
  have lS := HBK3.out.lt
  have k1 := HK41.out.cell
  have l1 := HK41.out.lt
  go_wp2_with fail
  refine (spec_l14Between ns us gs f A0 A1 A2 A3 A4 c0 c1 c2 c3 c4 Ab Ai Ao nb cb ni ci no co _ HS3.out H1.out (by have := HL.out; omega) (HG.out.below HB3.out) HGR.out).mono ?_
  rintro e w4 ⟨rfl, hb⟩
  rw [HIS.out]
  have HB4 := Lib.hid (bthen HB3.out hb)
  have hr1 := HK42.out.below hb HK42.out.lt
  have rc := hr1.cell
  have rf := hr1.frozen
  have rl := hr1.lt
  clear hb kS k1 hr1
  go_wp2
  refine bodyPost_ret (v := .tuple #[.agg #[.int .i64 0, .slice none 0 0, .slice none 0 0], .int .i64 5]) (by simp [results, Tryz.results9, go_sem, rc, rf, rl]) rfl ⟨rfl, ?_⟩
  first | exact ((HB4.out.setCell (by show w.heap.size ≤ w.heap.size + 2; omega) _).setCell (by show w.heap.size ≤ w.heap.size + 2; omega) _).setCell (by show w.heap.size ≤ w.heap.size + 2; omega) _ | exact HB4.out
set_option maxHeartbeats 2000000 in
set_option maxRecDepth 100000 in
theorem impl_FiltrationModel_state (ns us gs : List Nat) (f : Fm) (A0 A1 A4 : Option Addr) (c0 c1 c4 : Nat) (v : Value) (w : World) (hm : Mdl w (.slice A0 ns.length c0) (.slice A1 6 c1) ns us) (h1 : MdN ns us) (h : Sl cN w v (enc f)) (hok : f.ok = true) (hl : (enc f).length ≤ 40) (hmk : mdOk ns.length (li ns) (li us) = true) (hfk : isF (enc f) = true) (hg : Sl cI w (.slice A4 gs.length c4) (li gs)) (hgr : RelN gs) (hfr : frOk gs.length (li gs) = true) (his : isf ns us f gs = false) :
    Calls Tryz.prog 13 #[.agg #[.int .i64 ns.length, .slice A0 ns.length c0, .slice A1 6 c1], v, .agg #[.int .i64 gs.length, .slice A4 gs.length c4]] w fun e w' => e = .returned (.tuple #[.agg #[.int .i64 0, .slice none 0 0, .slice none 0 0], .int .i64 5]) ∧ Below w.heap.size w w' := by
  obtain ⟨Af, cf, rfl⟩ := h.opn
  have hb0 := below_alloc' w (.cells #[.int .i64 ns.length, .slice A0 ns.length c0, .slice A1 6 c1] 33)
  have hk0 := Blk.new w 33 #[.int .i64 ns.length, .slice A0 ns.length c0, .slice A1 6 c1]
  have hb1 := below_alloc' (w.alloc (.cells #[.int .i64 ns.length, .slice A0 ns.length c0, .slice A1 6 c1] 33)) (.cells #[.int .i64 gs.length, .slice A4 gs.length c4] 31)
  have hk1 : Blk _ (w.heap.size + 1) _ _ := Blk.new' (w.alloc (.cells #[.int .i64 ns.length, .slice A0 ns.length c0, .slice A1 6 c1] 33)) 31 #[.int .i64 gs.length, .slice A4 gs.length c4] (by simp)
  have hb2 := below_alloc' ((w.alloc (.cells #[.int .i64 ns.length, .slice A0 ns.length c0, .slice A1 6 c1] 33)).alloc (.cells #[.int .i64 gs.length, .slice A4 gs.length c4] 31)) (.cells #[.int .i64 0, .slice none 0 0, .slice none 0 0] 33)
  have hk2 : Blk _ (w.heap.size + 2) _ _ := Blk.new' ((w.alloc (.cells #[.int .i64 ns.length, .slice A0 ns.length c0, .slice A1 6 c1] 33)).alloc (.cells #[.int .i64 gs.length, .slice A4 gs.length c4] 31)) 33 #[.int .i64 0, .slice none 0 0, .slice none 0 0] (by simp)
  have HB := Lib.hid (bthen (bthen hb0 hb1) hb2)
  have HK0 := Lib.hid ((hk0.below hb1 hk0.lt).below hb2 (hk0.below hb1 hk0.lt).lt)
  have HK1 := Lib.hid (hk1.below hb2 hk1.lt)
  have HK2 := Lib.hid hk2
  have HM := Lib.hid hm
  have H1 := Lib.hid h1
  have HG := Lib.hid hg
  have HGR := Lib.hid hgr
  have E1 := Lib.hid (li_length ns)
  have E2 := Lib.hid (show (li us).length = 6 by rw [li_length, h1.l])
  have E4 := Lib.hid (li_length gs)
  have HX : Hid (fcode ns.length (li ns) (li us) (enc f) = 0) := Lib.hid (by unfold fcode; rw [hmk, hfk]; rfl)
  have HC := Lib.hid (fun W (hW : Below w.heap.size w W) => HX.out ▸ impl_modelCode ns.length _ _ _ (li ns) (li us) (enc f) W (hm.a.below hW) (hm.u.below hW) (h.below hW) (by rw [E1.out]; have := h1.r.1; omega) (by rw [E2.out]; omega) (by omega))
  have HFR := Lib.hid (fun W (hW : Below w.heap.size w W) => hfr ▸ impl_isFrame gs.length _ (li gs) W (hg.below hW) (by rw [E4.out]; have := hgr.1; omega))
  have HN := Lib.hid (fun W (hW : Below w.heap.size w W) => impl_newFilter ns us f A0 A1 c0 c1 _ W (hm.below hW) h1 (h.below hW) hok hl)
  have HIS := Lib.hid (fun F A cc bx dm W (hF : Fil W F ns us f A0 A1 A c0 c1 cc (.slice Af (enc f).length cf) bx dm) (hW : Below w.heap.size w W) => his ▸ impl_isFiltration ns us gs f F A0 A1 A A4 c0 c1 cc c4 _ bx dm W hF h1 (by omega) (hg.below hW) hgr)
  have HV := Lib.hid h
  have HL := Lib.hid hl
  have HFK := Lib.hid hfk
  clear hb0 hb1 hk0 hk1 hb2 hk2 hm h hmk hfk h1 hl hg hgr hfr his
  go_enter Tryz.func13, Tryz.ntmps13
  go_upto_region 1 with fail
  generalize World.alloc (World.alloc (w.alloc _) _) _ = W at *
  have k0 := HK0.out.cell
  have l0 := HK0.out.lt
  go_wp2_with fail
  refine (HC.out _ HB.out).mono ?_
  rintro e w1 ⟨rfl, hb⟩
  have HB1 := Lib.hid (bthen HB.out hb)
  have HKa0 := Lib.hid (HK0.out.below hb l0)
  have HKa1 := Lib.hid (HK1.out.below hb HK1.out.lt)
  have HKa2 := Lib.hid (HK2.out.below hb HK2.out.lt)
  clear hb k0 l0 HK0 HK1 HK2 HB HC
  have k1 := HKa1.out.cell
  have l1 := HKa1.out.lt
  go_wp2_with fail
  refine (HFR.out _ HB1.out).mono ?_
  rintro e w2 ⟨rfl, hb⟩
  have HB2 := Lib.hid (bthen HB1.out hb)
  have HKb0 := Lib.hid (HKa0.out.below hb HKa0.out.lt)
  have HKb1 := Lib.hid (HKa1.out.below hb HKa1.out.lt)
  have HKb2 := Lib.hid (HKa2.out.below hb HKa2.out.lt)
  clear hb k1 l1 HKa0 HKa1 HKa2 HB1 HFR
  have k0 := HKb0.out.cell
  have l0 := HKb0.out.lt
  go_wp2_with fail
  refine (HN.out _ HB2.out).mono ?_
  rintro e w3 ⟨F, A, cc, bx, dm, rfl, hF, hbl, ho, hbx, hdm, hb⟩
  have HB3 := Lib.hid (bthen HB2.out hb)
  have HFil : Hid (Fil w3 F ns us f A0 A1 A c0 c1 cc (.slice Af (enc f).length cf) bx dm) := Lib.hid ⟨hbl, HM.out.below HB3.out, ho.sl, hbx, hdm⟩
  have HKc0 := Lib.hid (HKb0.out.below hb HKb0.out.lt)
  have HKc1 := Lib.hid (HKb1.out.below hb HKb1.out.lt)
  have HKc2 := Lib.hid (HKb2.out.below hb HKb2.out.lt)
  clear hb k0 l0 ho hbl hbx hdm HKb0 HKb1 HKb2 HB2 HN
  have k1 := HKc1.out.cell
  have l1 := HKc1.out.lt
  go_wp2_with fail
  refine (HIS.out _ _ _ _ _ _ HFil.out HB3.out).mono ?_
  rintro e w4 ⟨rfl, hb⟩
  have HB4 := Lib.hid (bthen HB3.out hb)
  have hr1 := HKc2.out.below hb HKc2.out.lt
  have rc := hr1.cell
  have rf := hr1.frozen
  have rl := hr1.lt
  clear hb k1 hr1
  go_wp2
  refine bodyPost_ret (v := .tuple #[.agg #[.int .i64 0, .slice none 0 0, .slice none 0 0], .int .i64 5]) (by simp [results, Tryz.results13, go_sem, rc, rf, rl]) rfl ⟨rfl, ?_⟩
  first | exact ((HB4.out.setCell (by show w.heap.size ≤ w.heap.size + 2; omega) _).setCell (by show w.heap.size ≤ w.heap.size + 2; omega) _).setCell (by show w.heap.size ≤ w.heap.size + 2; omega) _ | exact HB4.out
end Go.Proofs.YtgdmfihnbbgcoaaGreatDoor

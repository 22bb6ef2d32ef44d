/- Contracts of chapter 14: IsFiltration, of the program and of the reference. -/
import Derived.Test.YtcjplcliggciaaaGreatDoor14x
namespace Go.Proofs.YtcjplcliggciaaaGreatDoor
open Go.RowKit
set_option linter.unusedVariables false
set_option linter.unusedSimpArgs false
set_option maxRecDepth 100000 in
theorem impl_IsFiltration_ok (ns us gs : List Nat) (f : Fm) (A0 A1 A4 : Option Addr) (c0 c1 c4 : Nat) (v : Value) (w : World) (hm : Mdl w (.slice A0 ns.length c0) (.slice A1 6 c1) ns us) (h1 : MdN ns us) (h : Sl cN w v (enc f)) (hok : f.ok = true) (hl : (enc f).length ≤ 40) (hmk : mdOk ns.length (li ns) (li us) = true) (hfk : isF (enc f) = true) (hg : Sl cI w (.slice A4 gs.length c4) (li gs)) (hgr : RelN gs) (hfr : frOk gs.length (li gs) = true) :
    Calls Tryz.prog 16 #[.agg #[.int .i64 ns.length, .slice A0 ns.length c0, .slice A1 6 c1], v, .agg #[.int .i64 gs.length, .slice A4 gs.length c4]] w fun e w' => e = .returned (.tuple #[.bool (isf ns us f gs), .int .i64 0]) ∧ Below w.heap.size w w' := by
  obtain ⟨Af, cf, rfl⟩ := h.opn
  have hb0 := below_alloc' w (.cells #[.int .i64 ns.length, .slice A0 ns.length c0, .slice A1 6 c1] 35)
  have hk0 := Blk.new w 35 #[.int .i64 ns.length, .slice A0 ns.length c0, .slice A1 6 c1]
  have hb1 := below_alloc' (w.alloc (.cells #[.int .i64 ns.length, .slice A0 ns.length c0, .slice A1 6 c1] 35)) (.cells #[.int .i64 gs.length, .slice A4 gs.length c4] 33)
  have hk1 : Blk _ (w.heap.size + 1) _ _ := Blk.new' (w.alloc (.cells #[.int .i64 ns.length, .slice A0 ns.length c0, .slice A1 6 c1] 35)) 33 #[.int .i64 gs.length, .slice A4 gs.length c4] (by simp)
  have HB := Lib.hid (bthen hb0 hb1)
  have HK0 := Lib.hid (hk0.below hb1 hk0.lt)
  have HK1 := Lib.hid hk1
  have HM := Lib.hid hm
  have H1 := Lib.hid h1
  have HG := Lib.hid hg
  have HGR := Lib.hid hgr
  have E1 := Lib.hid (li_length ns)
  have E2 := Lib.hid (show (li us).length = 6 by rw [li_length, h1.l])
  have E4 := Lib.hid (li_length gs)
  have HX : Hid (fcode ns.length (li ns) (li us) (enc f) = 0) := Lib.hid (by unfold fcode; rw [hmk, hfk]; rfl)
  have HC := Lib.hid (fun W (hW : Below w.heap.size w W) => HX.out ▸ impl_modelCode ns.length _ _ _ (li ns) (li us) (enc f) W (hm.a.below hW) (hm.u.below hW) (h.below hW) (by rw [E1.out]; have := h1.r.1; omega) (by rw [E2.out]; omega) (by omega))
  have HFR := Lib.hid (fun W (hW : Below w.heap.size w W) => hfr ▸ impl_isFrame gs.length _ (li gs) W (hg.below hW) (by rw [E4.out]; have := hgr.1; omega))
  have HN := Lib.hid (fun W (hW : Below w.heap.size w W) => impl_newFilter ns us f A0 A1 c0 c1 _ W (hm.below hW) h1 (h.below hW) hok hl)
  have HL := Lib.hid hl
  clear hb0 hb1 hk0 hk1 hm h hmk hfk h1 hl hg hgr hfr
  go_enter Tryz.func16, Tryz.ntmps16
  go_upto_region 1 with fail
  generalize World.alloc (w.alloc _) _ = W at *
  have k0 := HK0.out.cell
  have l0 := HK0.out.lt
  go_wp2_with fail
  refine (HC.out _ HB.out).mono ?_
  rintro e w1 ⟨rfl, hb⟩
  have HB1 := Lib.hid (bthen HB.out hb)
  have HK2 := Lib.hid (HK0.out.below hb l0)
  have HK3 := Lib.hid (HK1.out.below hb HK1.out.lt)
  clear hb k0 l0
  have k1 := HK3.out.cell
  have l1 := HK3.out.lt
  go_wp2_with fail
  refine (HFR.out _ HB1.out).mono ?_
  rintro e w2 ⟨rfl, hb⟩
  have HB2 := Lib.hid (bthen HB1.out hb)
  have HK4 := Lib.hid (HK2.out.below hb HK2.out.lt)
  have HK5 := Lib.hid (HK3.out.below hb HK3.out.lt)
  clear hb k1 l1
  have d0 : w2.cell? ⟨w.heap.size, 0, none⟩ = some (.int .i64 (ns.length : Int)) := HK4.out.cell 0
  have d1 : w2.cell? ⟨w.heap.size, 1, none⟩ = some (.slice A0 ns.length c0) := HK4.out.cell 1
  have d2 : w2.cell? ⟨w.heap.size, 2, none⟩ = some (.slice A1 6 c1) := HK4.out.cell 2
  have d3 : w2.cell? ⟨w.heap.size + 1, 0, none⟩ = some (.int .i64 (gs.length : Int)) := HK5.out.cell 0
  have d4 : w2.cell? ⟨w.heap.size + 1, 1, none⟩ = some (.slice A4 gs.length c4) := HK5.out.cell 1
  have l0 := HK4.out.lt
  have l1 := HK5.out.lt
  go_upto_region 3 with fail
  refine wp_region_sched (Below w2.heap.size w2) 7 [0, 1, 3, 5, 6] [0, 1, 3, 2, 4, 5, 6] (by kernel_rfl) (by kernel_rfl) (Below.refl _ _).drew ?_
  repeat
    apply wpSched_q rfl rfl
    case h =>
      intro w' hI K hK
      have d0' := (hI.cell (p := ⟨w.heap.size, 0, none⟩) l0).trans d0
      have d1' := (hI.cell (p := ⟨w.heap.size, 1, none⟩) l0).trans d1
      have d2' := (hI.cell (p := ⟨w.heap.size, 2, none⟩) l0).trans d2
      have d3' := (hI.cell (p := ⟨w.heap.size + 1, 0, none⟩) l1).trans d3
      have d4' := (hI.cell (p := ⟨w.heap.size + 1, 1, none⟩) l1).trans d4
      simp only [quietV, stillV]
      go_simp
      exact hK
    go_simp
  refine wpSched_r rfl rfl ?_ (Below.refl _ _).drew
  intro K hK _
  go_simp
  refine (HN.out _ (bthen HB2.out (Below.refl _ _).drew)).mono ?_
  rintro e w3 ⟨F, A, cc, bx, dm, rfl, hF, hbl, ho, hbx, hdm, hb⟩
  have hb3 : Below w2.heap.size w2 w3 := (Below.refl _ _).drew.trans hb
  have HFil : Hid (Fil w3 F ns us f A0 A1 A c0 c1 cc (.slice Af (enc f).length cf) bx dm) := Lib.hid ⟨hbl, HM.out.below (bthen HB2.out hb3), ho.sl, hbx, hdm⟩
  refine hK _ _ hb3 ?_
  clear hK K hb ho hbl hbx hdm
  refine wpSched_r rfl rfl ?_ hb3
  intro K hK _
  go_simp
  refine (impl_isFiltration ns us gs f F A0 A1 A A4 c0 c1 cc c4 _ bx dm _ HFil.out H1.out (by have := HL.out; omega) (HG.out.below (bthen HB2.out hb3)) HGR.out).mono ?_
  rintro e w4 ⟨rfl, hb⟩
  have hb4 : Below w2.heap.size w2 w4 := hb3.trans (hb.mono hb3.size)
  refine hK _ _ hb4 ?_
  clear hK K hb
  repeat
    apply wpSched_q rfl rfl
    case h =>
      intro w' hI K hK
      simp only [quietV, stillV]
      go_simp
      exact hK
    go_simp
  refine wpSched_nil ?_
  try simp only [List.drop_succ_cons, List.drop_zero, List.drop_nil]
  have HB4 := Lib.hid (bthen HB2.out hb4)
  clear hb4 hb3 d0 d1 d2 d3 d4
  go_wp2
  go_ret2
  exact ⟨rfl, HB4.out⟩
set_option maxRecDepth 100000 in
theorem impl_IsFiltration_bad (n k : Int) (va vu vf vg : Value) (xs vs gs : List Int) (zs : List Nd) (w : World) (ha : Sl cI w va xs) (hu : Sl cI w vu vs) (hf : Sl cN w vf zs) (hg : Sl cI w vg gs) (hl : xs.length ≤ 1048576) (hl' : vs.length ≤ 1048576) (hl2 : zs.length ≤ 1048576) (hl3 : gs.length ≤ 1048576)
    (hc : fcode n xs vs zs = 1 ∨ (fcode n xs vs zs = 0 ∧ frOk k gs = false)) :
    Calls Tryz.prog 16 #[.agg #[.int .i64 n, va, vu], vf, .agg #[.int .i64 k, vg]] w fun e w' => e = .returned (.tuple #[.bool false, .int .i64 1]) ∧ Below w.heap.size w w' := by
  obtain ⟨A0, c0, rfl⟩ := ha.opn
  obtain ⟨A1, c1, rfl⟩ := hu.opn
  obtain ⟨A4, c4, rfl⟩ := hg.opn
  have hb0 := below_alloc' w (.cells #[.int .i64 n, .slice A0 xs.length c0, .slice A1 vs.length c1] 35)
  have hk0 := Blk.new w 35 #[.int .i64 n, .slice A0 xs.length c0, .slice A1 vs.length c1]
  have hb1 := below_alloc' (w.alloc (.cells #[.int .i64 n, .slice A0 xs.length c0, .slice A1 vs.length c1] 35)) (.cells #[.int .i64 k, .slice A4 gs.length c4] 33)
  have hk1 : Blk _ (w.heap.size + 1) _ _ := Blk.new' (w.alloc (.cells #[.int .i64 n, .slice A0 xs.length c0, .slice A1 vs.length c1] 35)) 33 #[.int .i64 k, .slice A4 gs.length c4] (by simp)
  have HB := Lib.hid (bthen hb0 hb1)
  have HK0 := Lib.hid (hk0.below hb1 hk0.lt)
  have HK1 := Lib.hid hk1
  have HC := Lib.hid (fun W (hW : Below w.heap.size w W) => impl_modelCode n _ _ vf xs vs zs W (ha.below hW) (hu.below hW) (hf.below hW) hl hl' hl2)
  have HFR := Lib.hid (fun W (hW : Below w.heap.size w W) => impl_isFrame k _ gs W (hg.below hW) (by omega))
  have HX := Lib.hid hc
  clear hb0 hb1 hk0 hk1 ha hu hf hg hc
  go_enter Tryz.func16, Tryz.ntmps16
  go_upto_region 1 with fail
  generalize World.alloc (w.alloc _) _ = W at *
  have k0 := HK0.out.cell
  have l0 := HK0.out.lt
  go_wp2_with fail
  refine (HC.out _ HB.out).mono ?_
  rintro e w1 ⟨rfl, hb⟩
  have HB1 := Lib.hid (bthen HB.out hb)
  have HK3 := Lib.hid (HK1.out.below hb HK1.out.lt)
  clear hb k0 l0
  have k1 := HK3.out.cell
  have l1 := HK3.out.lt
  have hx := HX.out
  rcases hx with hx | ⟨hx, hy⟩
  · rw [hx]
    clear hx
    go_wp2
    go_ret2
    exact ⟨rfl, HB1.out⟩
  · rw [hx]
    have HY := Lib.hid hy
    clear hx hy
    go_wp2_with fail
    refine (HFR.out _ HB1.out).mono ?_
    rintro e w2 ⟨rfl, hb⟩
    rw [HY.out]
    have HB2 := Lib.hid (bthen HB1.out hb)
    clear hb k1
    go_wp2
    go_ret2
    exact ⟨rfl, HB2.out⟩
set_option maxRecDepth 100000 in
theorem spec_IsFiltration_ok (ns us gs : List Nat) (f : Fm) (A0 A1 A4 : Option Addr) (c0 c1 c4 : Nat) (v : Value) (w : World) (hm : Mdl w (.slice A0 ns.length c0) (.slice A1 6 c1) ns us) (h1 : MdN ns us) (h : Sl cN w v (enc f)) (hok : f.ok = true) (hl : (enc f).length ≤ 40) (hmk : mdOk ns.length (li ns) (li us) = true) (hfk : isF (enc f) = true) (hg : Sl cI w (.slice A4 gs.length c4) (li gs)) (hgr : RelN gs) (hfr : frOk gs.length (li gs) = true) :
    Calls Tryz.prog 12 #[.agg #[.int .i64 ns.length, .slice A0 ns.length c0, .slice A1 6 c1], v, .agg #[.int .i64 gs.length, .slice A4 gs.length c4]] w fun e w' => e = .returned (.tuple #[.bool (isf ns us f gs), .int .i64 0]) ∧ Below w.heap.size w w' := by
  have hb0 := below_alloc' w (.cells #[.int .i64 ns.length, .slice A0 ns.length c0, .slice A1 6 c1] 35)
  have hk0 := Blk.new w 35 #[.int .i64 ns.length, .slice A0 ns.length c0, .slice A1 6 c1]
  have hb1 := below_alloc' (w.alloc (.cells #[.int .i64 ns.length, .slice A0 ns.length c0, .slice A1 6 c1] 35)) (.cells #[.int .i64 gs.length, .slice A4 gs.length c4] 33)
  have hk1 : Blk _ (w.heap.size + 1) _ _ := Blk.new' (w.alloc (.cells #[.int .i64 ns.length, .slice A0 ns.length c0, .slice A1 6 c1] 35)) 33 #[.int .i64 gs.length, .slice A4 gs.length c4] (by simp)
  have HB := Lib.hid (bthen hb0 hb1)
  have HK0 := Lib.hid (hk0.below hb1 hk0.lt)
  have HK1 := Lib.hid hk1
  have H1 := Lib.hid h1
  have HG := Lib.hid hg
  have HGR := Lib.hid hgr
  have E4 := Lib.hid (li_length gs)
  have HC := Lib.hid (fun W (hW : Below w.heap.size w W) => spec_l14Code_ok ns us f A0 A1 c0 c1 v W (hm.below hW) h1 (h.below hW) hok hl hmk hfk)
  have HFR := Lib.hid (fun W (hW : Below w.heap.size w W) => hfr ▸ spec_l05Is gs.length _ (li gs) W (hg.below hW) (by rw [E4.out]; have := hgr.1; omega))
  have HL := Lib.hid hl
  clear hb0 hb1 hk0 hk1 hm h hmk hfk h1 hl hg hgr hfr
  go_enter Tryz.func12, Tryz.ntmps12
  go_upto_region 1 with fail
  generalize World.alloc (w.alloc _) _ = W at *
  have k0 := HK0.out.cell
  have l0 := HK0.out.lt
  go_wp2_with fail
  refine (HC.out _ HB.out).mono ?_
  rintro e w1 ⟨s, rfl, ⟨A2, c2, A3, c3, Ab, nb, cb, Ai, ni, ci, Ao, no, co, rfl, ho, hsp⟩, hb⟩
  have HB1 := Lib.hid (bthen HB.out hb)
  have hba := below_alloc' w1 (.cells #[.int .i64 ns.length, .slice A0 ns.length c0, .slice A1 6 c1, .slice A2 ns.length c2, .slice A3 (acn ns us f) c3, .slice Ab nb cb, .slice Ai ni ci, .slice Ao no co] 62)
  have hbk := Blk.new w1 62 #[.int .i64 ns.length, .slice A0 ns.length c0, .slice A1 6 c1, .slice A2 ns.length c2, .slice A3 (acn ns us f) c3, .slice Ab nb cb, .slice Ai ni ci, .slice Ao no co]
  have HBA := Lib.hid (bthen HB1.out hba)
  have HBK := Lib.hid hbk
  have HSQ := Lib.hid (hsp.below hba)
  have HK3 := Lib.hid ((HK1.out.below hb HK1.out.lt).below hba (HK1.out.below hb HK1.out.lt).lt)
  clear ho hsp hb hba hbk k0 l0
  go_upto_region 2 with fail
  generalize World.alloc w1 _ = w2 at *
  have k1 := HK3.out.cell
  have l1 := HK3.out.lt
  go_wp2_with fail
  refine (HFR.out _ HBA.out).mono ?_
  rintro e w3 ⟨rfl, hb⟩
  have HB3 := Lib.hid (bthen HBA.out hb)
  have HBK3 := Lib.hid (HBK.out.below hb HBK.out.lt)
  have HK4 := Lib.hid (HK3.out.below hb HK3.out.lt)
  have HS3 := Lib.hid (HSQ.out.below hb)
  clear hb k1 l1
  have kS := HBK3.out.cell
  have lS := HBK3.out.lt
  have k1 := HK4.out.cell
  have l1 := HK4.out.lt
  go_wp2_with fail
  refine (spec_l14Between ns us gs f A0 A1 A2 A3 A4 c0 c1 c2 c3 c4 Ab Ai Ao nb cb ni ci no co _ HS3.out H1.out (by have := HL.out; omega) (HG.out.below HB3.out) HGR.out).mono ?_
  rintro e w4 ⟨rfl, hb⟩
  have HB4 := Lib.hid (bthen HB3.out hb)
  clear hb kS k1
  go_wp2
  go_ret2
  exact ⟨rfl, HB4.out⟩
set_option maxRecDepth 100000 in
theorem spec_IsFiltration_bad1 (n k : Int) (va vu vf vg : Value) (xs vs gs : List Int) (zs : List Nd) (w : World) (ha : Sl cI w va xs) (hu : Sl cI w vu vs) (hf : Sl cN w vf zs) (hg : Sl cI w vg gs) (hl : xs.length ≤ 1048576) (hl' : vs.length ≤ 1048576) (hl2 : zs.length ≤ 1048576) (hl3 : gs.length ≤ 1048576)
    (hc : mdOk n xs vs = false ∨ (mdOk n xs vs = true ∧ isF zs = false)) :
    Calls Tryz.prog 12 #[.agg #[.int .i64 n, va, vu], vf, .agg #[.int .i64 k, vg]] w fun e w' => e = .returned (.tuple #[.bool false, .int .i64 1]) ∧ Below w.heap.size w w' := by
  obtain ⟨A0, c0, rfl⟩ := ha.opn
  obtain ⟨A1, c1, rfl⟩ := hu.opn
  obtain ⟨A4, c4, rfl⟩ := hg.opn
  have hb0 := below_alloc' w (.cells #[.int .i64 n, .slice A0 xs.length c0, .slice A1 vs.length c1] 35)
  have hk0 := Blk.new w 35 #[.int .i64 n, .slice A0 xs.length c0, .slice A1 vs.length c1]
  have hb1 := below_alloc' (w.alloc (.cells #[.int .i64 n, .slice A0 xs.length c0, .slice A1 vs.length c1] 35)) (.cells #[.int .i64 k, .slice A4 gs.length c4] 33)
  have HB := Lib.hid (bthen hb0 hb1)
  have HK0 := Lib.hid (hk0.below hb1 hk0.lt)
  have HC := Lib.hid (fun W (hW : Below w.heap.size w W) => spec_l14Code_bad n _ _ vf xs vs zs W (ha.below hW) (hu.below hW) (hf.below hW) hl hl' hl2 hc)
  clear hb0 hb1 hk0 ha hu hf hg hc
  go_enter Tryz.func12, Tryz.ntmps12
  go_upto_region 1 with fail
  generalize World.alloc (w.alloc _) _ = W at *
  have k0 := HK0.out.cell
  have l0 := HK0.out.lt
  go_wp2_with fail
  refine (HC.out _ HB.out).mono ?_
  rintro e w1 ⟨rfl, hb⟩
  have HB1 := Lib.hid (bthen HB.out hb)
  clear hb k0 l0
  go_wp2
  go_ret2
  exact ⟨rfl, HB1.out.alloc HB1.out.size _⟩
set_option maxRecDepth 100000 in
theorem spec_IsFiltration_bad2 (ns us : List Nat) (f : Fm) (A0 A1 : Option Addr) (c0 c1 : Nat) (v vg : Value) (k : Int) (gs : List Int) (w : World) (hm : Mdl w (.slice A0 ns.length c0) (.slice A1 6 c1) ns us) (h1 : MdN ns us) (h : Sl cN w v (enc f)) (hok : f.ok = true) (hl : (enc f).length ≤ 40) (hmk : mdOk ns.length (li ns) (li us) = true) (hfk : isF (enc f) = true) (hg : Sl cI w vg gs) (hl3 : gs.length ≤ 1048576) (hfr : frOk k gs = false) :
    Calls Tryz.prog 12 #[.agg #[.int .i64 ns.length, .slice A0 ns.length c0, .slice A1 6 c1], v, .agg #[.int .i64 k, vg]] w fun e w' => e = .returned (.tuple #[.bool false, .int .i64 1]) ∧ Below w.heap.size w w' := by
  obtain ⟨A4, c4, rfl⟩ := hg.opn
  have hb0 := below_alloc' w (.cells #[.int .i64 ns.length, .slice A0 ns.length c0, .slice A1 6 c1] 35)
  have hk0 := Blk.new w 35 #[.int .i64 ns.length, .slice A0 ns.length c0, .slice A1 6 c1]
  have hb1 := below_alloc' (w.alloc (.cells #[.int .i64 ns.length, .slice A0 ns.length c0, .slice A1 6 c1] 35)) (.cells #[.int .i64 k, .slice A4 gs.length c4] 33)
  have hk1 : Blk _ (w.heap.size + 1) _ _ := Blk.new' (w.alloc (.cells #[.int .i64 ns.length, .slice A0 ns.length c0, .slice A1 6 c1] 35)) 33 #[.int .i64 k, .slice A4 gs.length c4] (by simp)
  have HB := Lib.hid (bthen hb0 hb1)
  have HK0 := Lib.hid (hk0.below hb1 hk0.lt)
  have HK1 := Lib.hid hk1
  have HC := Lib.hid (fun W (hW : Below w.heap.size w W) => spec_l14Code_ok ns us f A0 A1 c0 c1 v W (hm.below hW) h1 (h.below hW) hok hl hmk hfk)
  have HFR := Lib.hid (fun W (hW : Below w.heap.size w W) => hfr ▸ spec_l05Is k _ gs W (hg.below hW) (by omega))
  clear hb0 hb1 hk0 hk1 hm h hmk hfk h1 hl hg hfr
  go_enter Tryz.func12, Tryz.ntmps12
  go_upto_region 1 with fail
  generalize World.alloc (w.alloc _) _ = W at *
  have k0 := HK0.out.cell
  have l0 := HK0.out.lt
  go_wp2_with fail
  refine (HC.out _ HB.out).mono ?_
  rintro e w1 ⟨s, rfl, ⟨A2, c2, A3, c3, Ab, nb, cb, Ai, ni, ci, Ao, no, co, rfl, ho, hsp⟩, hb⟩
  have hba := below_alloc' w1 (.cells #[.int .i64 ns.length, .slice A0 ns.length c0, .slice A1 6 c1, .slice A2 ns.length c2, .slice A3 (acn ns us f) c3, .slice Ab nb cb, .slice Ai ni ci, .slice Ao no co] 62)
  have HBA := Lib.hid (bthen (bthen HB.out hb) hba)
  have HK3 := Lib.hid ((HK1.out.below hb HK1.out.lt).below hba (HK1.out.below hb HK1.out.lt).lt)
  clear ho hsp hb hba k0 l0
  go_upto_region 2 with fail
  generalize World.alloc w1 _ = w2 at *
  have k1 := HK3.out.cell
  have l1 := HK3.out.lt
  go_wp2_with fail
  refine (HFR.out _ HBA.out).mono ?_
  rintro e w3 ⟨rfl, hb⟩
  have HB3 := Lib.hid (bthen HBA.out hb)
  clear hb k1 l1
  go_wp2
  go_ret2
  exact ⟨rfl, HB3.out⟩
end Go.Proofs.YtcjplcliggciaaaGreatDoor

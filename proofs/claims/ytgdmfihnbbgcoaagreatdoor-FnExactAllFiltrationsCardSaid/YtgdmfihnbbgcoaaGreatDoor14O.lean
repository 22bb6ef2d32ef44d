/- AllFiltrations of the program and of the reference. -/
import Derived.Test.YtgdmfihnbbgcoaaGreatDoor14M
namespace Go.Proofs.YtgdmfihnbbgcoaaGreatDoor
open Go.RowKit
set_option linter.unusedVariables false
set_option linter.unusedSimpArgs false
/-- the answer -/
def afL (ns us : List Nat) (f : Fm) : List (Int × List Int) := if chc ns us f ≤ 7 then fsl (lst ns us f) (gre ns us f) (acn ns us f) else []
def afC (ns us : List Nat) (f : Fm) : Int := if chc ns us f ≤ 7 then 0 else 3
theorem impl_allFiltrations_big (ns us : List Nat) (f : Fm) (F : Nat) (A0 A1 A : Option Addr) (c0 c1 cc : Nat) (sf bx dm : Value) (w : World) (h : Fil w F ns us f A0 A1 A c0 c1 cc sf bx dm) (h1 : MdN ns us) (hl : (enc f).length ≤ 1000) (h7 : ¬ chc ns us f ≤ 7) :
    Calls Tryz.prog 54 #[.pointer (some ⟨F, 0, none⟩)] w fun e w' => e = .returned (.tuple #[.slice none 0 0, .bool false]) ∧ Below w.heap.size w w' := by
  have HCh := Lib.hid (impl_choice ns us f F A0 A1 A c0 c1 cc sf bx dm w h h1 hl)
  clear h h1 hl
  generalize chc ns us f = kc at *
  have hk2 : (7 : Int) < (kc : Int) := by omega
  go_enter Tryz.func54, Tryz.ntmps54
  go_wp2_with fail
  refine HCh.out.mono ?_
  rintro e w1 ⟨rfl, hb⟩
  have HB1 := Lib.hid hb
  clear hb HCh
  go_wp2
  go_ret2
  exact ⟨rfl, HB1.out⟩
set_option maxRecDepth 100000 in
theorem impl_AllFiltrations_ok (ns us : List Nat) (f : Fm) (A0 A1 : Option Addr) (c0 c1 : Nat) (v : Value) (w : World) (hm : Mdl w (.slice A0 ns.length c0) (.slice A1 6 c1) ns us) (h1 : MdN ns us) (h : Sl cN w v (enc f)) (hok : f.ok = true) (hl : (enc f).length ≤ 40) (hmk : mdOk ns.length (li ns) (li us) = true) (hfk : isF (enc f) = true) :
    Calls Tryz.prog 22 #[.agg #[.int .i64 ns.length, .slice A0 ns.length c0, .slice A1 6 c1], v] w fun e w' => ∃ u, e = .returned (.tuple #[u, .int .i64 (afC ns us f)]) ∧ ObF w.heap.size w'.heap.size w' u (afL ns us f) ∧ Below w.heap.size w w' := by
  have hb0 := below_alloc' w (.cells #[.int .i64 ns.length, .slice A0 ns.length c0, .slice A1 6 c1] 33)
  have hk0 := Blk.new w 33 #[.int .i64 ns.length, .slice A0 ns.length c0, .slice A1 6 c1]
  have HB := Lib.hid hb0
  have HK0 := Lib.hid hk0
  have HM := Lib.hid hm
  have HF := Lib.hid h
  have H1 := Lib.hid h1
  have E1 := Lib.hid (li_length ns)
  have E2 := Lib.hid (show (li us).length = 6 by rw [li_length, h1.l])
  have HX : Hid (fcode ns.length (li ns) (li us) (enc f) = 0) := Lib.hid (by unfold fcode; rw [hmk, hfk]; rfl)
  have HC := Lib.hid (fun W (hW : Below w.heap.size w W) => HX.out ▸ impl_modelCode ns.length _ _ v (li ns) (li us) (enc f) W (hm.a.below hW) (hm.u.below hW) (h.below hW) (by rw [E1.out]; have := h1.r.1; omega) (by rw [E2.out]; omega) (by omega))
  have HN := Lib.hid (fun W (hW : Below w.heap.size w W) => impl_newFilter ns us f A0 A1 c0 c1 v W (hm.below hW) h1 (h.below hW) hok hl)
  have HBig := Lib.hid (fun (h7 : ¬ chc ns us f ≤ 7) F A cc bx dm W (hF : Fil W F ns us f A0 A1 A c0 c1 cc v bx dm) => impl_allFiltrations_big ns us f F A0 A1 A c0 c1 cc v bx dm W hF h1 (by omega) h7)
  have HAll := Lib.hid (fun (h7 : chc ns us f ≤ 7) F A cc bx dm W (hF : Fil W F ns us f A0 A1 A c0 c1 cc v bx dm) => impl_allFiltrations ns us f F A0 A1 A c0 c1 cc v bx dm W hF h1 (by omega) h7)
  have HL : Hid (afL ns us f = if chc ns us f ≤ 7 then fsl (lst ns us f) (gre ns us f) (acn ns us f) else []) := Lib.hid rfl
  have HCo : Hid (afC ns us f = if chc ns us f ≤ 7 then 0 else 3) := Lib.hid rfl
  clear hb0 hk0 hm h hmk hfk h1 hl
  go_enter Tryz.func22, Tryz.ntmps22
  go_upto_region 1 with fail
  generalize World.alloc w _ = W at *
  have k0 := HK0.out.cell
  have l0 := HK0.out.lt
  go_wp2_with fail
  refine (HC.out _ HB.out).mono ?_
  rintro e w1 ⟨rfl, hb⟩
  have HB1 := Lib.hid (bthen HB.out hb)
  have HK2 := Lib.hid (HK0.out.below hb l0)
  clear hb k0 l0
  have k0 := HK2.out.cell
  have l0 := HK2.out.lt
  go_wp2_with fail
  refine (HN.out _ HB1.out).mono ?_
  rintro e w2 ⟨F, A, cc, bx, dm, rfl, hF, hbl, ho, hbx, hdm, hb⟩
  have HB2 := Lib.hid (bthen HB1.out hb)
  have HFil : Hid (Fil w2 F ns us f A0 A1 A c0 c1 cc v bx dm) := Lib.hid ⟨hbl, HM.out.below (bthen HB1.out hb), ho.sl, hbx, hdm⟩
  clear ho hb hbl hbx hdm k0 l0
  by_cases hk : chc ns us f ≤ 7
  · have HN1 : Hid (afL ns us f = fsl (lst ns us f) (gre ns us f) (acn ns us f)) := Lib.hid (by rw [HL.out, if_pos hk])
    have HN2 : Hid (afC ns us f = 0) := Lib.hid (by rw [HCo.out, if_pos hk])
    have HA2 := Lib.hid (HAll.out hk F A cc bx dm _ HFil.out)
    clear HBig HAll
    go_wp2_with fail
    refine HA2.out.mono ?_
    rintro e w3 ⟨u, rfl, ho, hb⟩
    obtain ⟨A3, c3, rfl⟩ := ho.opn
    have HO3 := Lib.hid (ho.mono HB2.out.size)
    have HB3 := Lib.hid (bthen HB2.out hb)
    clear ho hb HFil
    generalize (fsl (lst ns us f) (gre ns us f) (acn ns us f)) = FS at *
    go_wp2
    go_ret2
    exact ⟨_, by rw [HN2.out]; rfl, by rw [HN1.out]; exact HO3.out, HB3.out⟩
  · have HN1 : Hid (afL ns us f = []) := Lib.hid (by rw [HL.out, if_neg hk])
    have HN2 : Hid (afC ns us f = 3) := Lib.hid (by rw [HCo.out, if_neg hk])
    have HA2 := Lib.hid (HBig.out hk F A cc bx dm _ HFil.out)
    clear HBig HAll
    go_wp2_with fail
    refine HA2.out.mono ?_
    rintro e w3 ⟨rfl, hb⟩
    have HB3 := Lib.hid (bthen HB2.out hb)
    clear hb HFil
    go_wp2
    go_ret2
    exact ⟨_, by rw [HN2.out]; rfl, by rw [HN1.out]; exact ObF.nil _ _ _, HB3.out⟩
set_option maxRecDepth 100000 in
theorem impl_AllFiltrations_bad (n : Int) (va vu vf : Value) (xs vs : List Int) (zs : List Nd) (w : World) (ha : Sl cI w va xs) (hu : Sl cI w vu vs) (hf : Sl cN w vf zs) (hl : xs.length ≤ 1048576) (hl' : vs.length ≤ 1048576) (hl2 : zs.length ≤ 1048576) (hc : mdOk n xs vs = false ∨ (mdOk n xs vs = true ∧ isF zs = false)) :
    Calls Tryz.prog 22 #[.agg #[.int .i64 n, va, vu], vf] w fun e w' => e = .returned (.tuple #[.slice none 0 0, .int .i64 1]) ∧ Below w.heap.size w w' := by
  obtain ⟨A0, c0, rfl⟩ := ha.opn
  obtain ⟨A1, c1, rfl⟩ := hu.opn
  have hb0 := below_alloc' w (.cells #[.int .i64 n, .slice A0 xs.length c0, .slice A1 vs.length c1] 33)
  have hk0 := Blk.new w 33 #[.int .i64 n, .slice A0 xs.length c0, .slice A1 vs.length c1]
  have HB := Lib.hid hb0
  have HK0 := Lib.hid hk0
  have HX : Hid (fcode n xs vs zs = 1) := Lib.hid (by unfold fcode; rcases hc with hc | ⟨hc, hz⟩ <;> simp [hc, *])
  have HC := Lib.hid (fun W (hW : Below w.heap.size w W) => HX.out ▸ impl_modelCode n _ _ vf xs vs zs W (ha.below hW) (hu.below hW) (hf.below hW) hl hl' hl2)
  clear ha hu hf hb0 hk0 hc
  go_enter Tryz.func22, Tryz.ntmps22
  go_upto_region 1 with fail
  generalize World.alloc w _ = W at *
  have k0 := HK0.out.cell
  have l0 := HK0.out.lt
  go_wp2_with fail
  refine (HC.out _ HB.out).mono ?_
  rintro e w1 ⟨rfl, hb⟩
  have HB1 := Lib.hid (bthen HB.out hb)
  clear hb k0
  go_wp2
  go_ret2
  exact ⟨rfl, HB1.out⟩
set_option maxRecDepth 100000 in
theorem spec_AllFiltrations_ok (ns us : List Nat) (f : Fm) (A0 A1 : Option Addr) (c0 c1 : Nat) (v : Value) (w : World) (hm : Mdl w (.slice A0 ns.length c0) (.slice A1 6 c1) ns us) (h1 : MdN ns us) (h : Sl cN w v (enc f)) (hok : f.ok = true) (hl : (enc f).length ≤ 40) (hmk : mdOk ns.length (li ns) (li us) = true) (hfk : isF (enc f) = true) :
    Calls Tryz.prog 21 #[.agg #[.int .i64 ns.length, .slice A0 ns.length c0, .slice A1 6 c1], v] w fun e w' => ∃ u, e = .returned (.tuple #[u, .int .i64 (afC ns us f)]) ∧ ObF w.heap.size w'.heap.size w' u (afL ns us f) ∧ Below w.heap.size w w' := by
  have hb0 := below_alloc' w (.cells #[.int .i64 ns.length, .slice A0 ns.length c0, .slice A1 6 c1] 33)
  have hk0 := Blk.new w 33 #[.int .i64 ns.length, .slice A0 ns.length c0, .slice A1 6 c1]
  have HB := Lib.hid hb0
  have HK0 := Lib.hid hk0
  have HM := Lib.hid hm
  have HF := Lib.hid h
  have H1 := Lib.hid h1
  have HC := Lib.hid (fun W (hW : Below w.heap.size w W) => spec_l14Code_ok ns us f A0 A1 c0 c1 v W (hm.below hW) h1 (h.below hW) hok hl hmk hfk)
  have HCh := Lib.hid (fun A2 A3 c2 c3 Ab Ai Ao nb cb ni ci no co W (hS : SpR W ns us f A0 A1 c0 c1 (.slice A2 ns.length c2) (.slice A3 (acn ns us f) c3) (.slice Ab nb cb) (.slice Ai ni ci) (.slice Ao no co)) => spec_l14Room ns us f A0 A1 A2 A3 c0 c1 c2 c3 Ab Ai Ao nb cb ni ci no co W hS h1 (by omega))
  have HAl := Lib.hid (fun (h7 : chc ns us f ≤ 7) A2 A3 c2 c3 Ab Ai Ao nb cb ni ci no co W (hS : SpR W ns us f A0 A1 c0 c1 (.slice A2 ns.length c2) (.slice A3 (acn ns us f) c3) (.slice Ab nb cb) (.slice Ai ni ci) (.slice Ao no co)) => spec_l14All ns us f A0 A1 A2 A3 c0 c1 c2 c3 Ab Ai Ao nb cb ni ci no co W hS h1 (by omega) h7)
  have HL7 : Hid (afL ns us f = if chc ns us f ≤ 7 then fsl (lst ns us f) (gre ns us f) (acn ns us f) else []) := Lib.hid rfl
  have HCo : Hid (afC ns us f = if chc ns us f ≤ 7 then 0 else 3) := Lib.hid rfl
  have HL := Lib.hid hl
  clear hb0 hk0 hm h hmk hfk h1 hl
  go_enter Tryz.func21, Tryz.ntmps21
  go_upto_region 1 with fail
  generalize World.alloc w _ = W at *
  have k0 := HK0.out.cell
  have l0 := HK0.out.lt
  go_wp2_with fail
  refine (HC.out _ HB.out).mono ?_
  rintro e w1 ⟨s, rfl, ⟨A2, c2, A3, c3, Ab, nb, cb, Ai, ni, ci, Ao, no, co, rfl, ho, hsp⟩, hb⟩
  have HB1 := Lib.hid (bthen HB.out hb)
  have hba := below_alloc' w1 (.cells #[.int .i64 ns.length, .slice A0 ns.length c0, .slice A1 6 c1, .slice A2 ns.length c2, .slice A3 (acn ns us f) c3, .slice Ab nb cb, .slice Ai ni ci, .slice Ao no co] 59)
  have HSP := Lib.hid (hsp.below hba)
  have HB2 := Lib.hid (bthen HB1.out hba)
  have HK2 := Lib.hid (Blk.new w1 59 #[.int .i64 ns.length, .slice A0 ns.length c0, .slice A1 6 c1, .slice A2 ns.length c2, .slice A3 (acn ns us f) c3, .slice Ab nb cb, .slice Ai ni ci, .slice Ao no co])
  clear ho hsp hb k0 l0 hba
  go_upto_region 4 with fail
  generalize World.alloc w1 _ = w2 at *
  have k0 := HK2.out.cell
  have l0 := HK2.out.lt
  go_wp2_with fail
  refine (HCh.out _ _ _ _ _ _ _ _ _ _ _ _ _ _ HSP.out).mono ?_
  rintro e w3 ⟨rfl, hb⟩
  have HB3 := Lib.hid (bthen HB2.out hb)
  have HSP3 := Lib.hid (HSP.out.below hb)
  have HK3 := Lib.hid (HK2.out.below hb HK2.out.lt)
  clear hb k0 l0
  by_cases hk : chc ns us f ≤ 7
  · have HN1 : Hid (afL ns us f = fsl (lst ns us f) (gre ns us f) (acn ns us f)) := Lib.hid (by rw [HL7.out, if_pos hk])
    have HN2 : Hid (afC ns us f = 0) := Lib.hid (by rw [HCo.out, if_pos hk])
    have HA2 := Lib.hid (HAl.out hk _ _ _ _ _ _ _ _ _ _ _ _ _ _ HSP3.out)
    have hk2 : ¬ (7 : Int) < ((chc ns us f : Nat) : Int) := by omega
    have k0 := HK3.out.cell
    have l0 := HK3.out.lt
    generalize chc ns us f = kc at *
    clear HAl HCh
    go_wp2_with fail
    refine HA2.out.mono ?_
    rintro e w4 ⟨u, rfl, ho, hb⟩
    obtain ⟨A4, c4, rfl⟩ := ho.opn
    have HO4 := Lib.hid (ho.mono HB3.out.size)
    have HB4 := Lib.hid (bthen HB3.out hb)
    clear ho hb k0 l0
    generalize (fsl (lst ns us f) (gre ns us f) (acn ns us f)) = FS at *
    go_wp2
    go_ret2
    exact ⟨_, by rw [HN2.out]; rfl, by rw [HN1.out]; exact HO4.out, HB4.out⟩
  · have HN1 : Hid (afL ns us f = []) := Lib.hid (by rw [HL7.out, if_neg hk])
    have HN2 : Hid (afC ns us f = 3) := Lib.hid (by rw [HCo.out, if_neg hk])
    have hk2 : (7 : Int) < ((chc ns us f : Nat) : Int) := by omega
    generalize chc ns us f = kc at *
    clear HAl HCh
    go_wp2
    go_ret2
    exact ⟨_, by rw [HN2.out]; rfl, by rw [HN1.out]; exact ObF.nil _ _ _, HB3.out⟩
set_option maxRecDepth 100000 in
theorem spec_AllFiltrations_bad (n : Int) (va vu vf : Value) (xs vs : List Int) (zs : List Nd) (w : World) (ha : Sl cI w va xs) (hu : Sl cI w vu vs) (hf : Sl cN w vf zs) (hl : xs.length ≤ 1048576) (hl' : vs.length ≤ 1048576) (hl2 : zs.length ≤ 1048576) (hc : mdOk n xs vs = false ∨ (mdOk n xs vs = true ∧ isF zs = false)) :
    Calls Tryz.prog 21 #[.agg #[.int .i64 n, va, vu], vf] w fun e w' => e = .returned (.tuple #[.slice none 0 0, .int .i64 1]) ∧ Below w.heap.size w w' := by
  obtain ⟨A0, c0, rfl⟩ := ha.opn
  obtain ⟨A1, c1, rfl⟩ := hu.opn
  have hb0 := below_alloc' w (.cells #[.int .i64 n, .slice A0 xs.length c0, .slice A1 vs.length c1] 33)
  have hk0 := Blk.new w 33 #[.int .i64 n, .slice A0 xs.length c0, .slice A1 vs.length c1]
  have HB := Lib.hid hb0
  have HK0 := Lib.hid hk0
  have HC := Lib.hid (fun W (hW : Below w.heap.size w W) => spec_l14Code_bad n _ _ vf xs vs zs W (ha.below hW) (hu.below hW) (hf.below hW) hl hl' hl2 hc)
  clear ha hu hf hb0 hk0 hc
  go_enter Tryz.func21, Tryz.ntmps21
  go_upto_region 1 with fail
  generalize World.alloc w _ = W at *
  have k0 := HK0.out.cell
  have l0 := HK0.out.lt
  go_wp2_with fail
  refine (HC.out _ HB.out).mono ?_
  rintro e w1 ⟨rfl, hb⟩
  have HB1 := Lib.hid (bthen HB.out hb)
  clear hb k0
  go_wp2
  go_ret2
  exact ⟨rfl, HB1.out.alloc (by have := HB1.out.size; omega) _⟩
end Go.Proofs.YtgdmfihnbbgcoaaGreatDoor

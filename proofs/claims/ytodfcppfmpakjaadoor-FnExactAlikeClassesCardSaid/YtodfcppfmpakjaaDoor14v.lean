/- Contracts of chapter 14: the classes, the least and the greatest filtration. Written by gen14v.py. -/
import Derived.Test.YtodfcppfmpakjaaDoor14u
import Derived.Test.YtodfcppfmpakjaaDoorEE
import Derived.Test.YtodfcppfmpakjaaDoorED
import Derived.Test.YtodfcppfmpakjaaDoor14t
namespace Go.Proofs.YtodfcppfmpakjaaDoor
open Go.RowKit
set_option linter.unusedVariables false
set_option linter.unusedSimpArgs false
theorem afw_le8 (ns us : List Nat) (f : Fm) (h : ns.length ≤ 8) (i : Nat) : (afw ns us f).getD i 0 ≤ 8 := by
  rcases Nat.lt_or_ge i (afw ns us f).length with hi | hi
  · have := ((dvd_fw (ky ns us f (enc f).length) ns.length).2.1 i (by rw [afw_length] at hi; exact hi)).1
    have h2 : (afw ns us f).getD i 0 < ns.length := this
    omega
  · rw [List.getD_eq_getElem?_getD, List.getElem?_eq_none hi]; simp
theorem gre_gp (ns us : List Nat) (f : Fm) : lnk (acn ns us f) (acn ns us f) (gp (may (mds ns us f (enc f).length) false) false (afw ns us f)) = gre ns us f := by
  rw [gre_grt]
  unfold grt
  refine lnk_congr fun x _ y _ => ?_
  simp [gp]
set_option maxRecDepth 100000 in
theorem impl_LeastFiltration_ok (ns us : List Nat) (f : Fm) (A0 A1 : Option Addr) (c0 c1 : Nat) (v : Value) (w : World) (hm : Mdl w (.slice A0 ns.length c0) (.slice A1 6 c1) ns us) (h1 : MdN ns us) (h : Sl cN w v (enc f)) (hok : f.ok = true) (hl : (enc f).length ≤ 40) (hmk : mdOk ns.length (li ns) (li us) = true) (hfk : isF (enc f) = true) :
    Calls Tryd.prog 19 #[.agg #[.int .i64 ns.length, .slice A0 ns.length c0, .slice A1 6 c1], v] w fun e w' => ∃ u, e = .returned (.tuple #[.agg #[.int .i64 (acn ns us f : Nat), u], .int .i64 0]) ∧ Ow cI 2 w.heap.size w' u (li (lst ns us f)) ∧ Below w.heap.size w w' := by
  have hb0 := below_alloc' w (.cells #[.int .i64 ns.length, .slice A0 ns.length c0, .slice A1 6 c1] 34)
  have hk0 := Blk.new w 34 #[.int .i64 ns.length, .slice A0 ns.length c0, .slice A1 6 c1]
  have hb1 := below_alloc' (w.alloc (.cells #[.int .i64 ns.length, .slice A0 ns.length c0, .slice A1 6 c1] 34)) (.cells #[.int .i64 0, .slice none 0 0] 32)
  have hk1 : Blk _ (w.heap.size + 1) _ _ := Blk.new' (w.alloc (.cells #[.int .i64 ns.length, .slice A0 ns.length c0, .slice A1 6 c1] 34)) 32 #[.int .i64 0, .slice none 0 0] (by simp)
  have HB := Lib.hid (bthen hb0 hb1)
  have HK0 := Lib.hid (hk0.below hb1 hk0.lt)
  have HK1 := Lib.hid hk1
  have HM := Lib.hid hm
  have HF := Lib.hid h
  have H1 := Lib.hid h1
  have E1 := Lib.hid (li_length ns)
  have E2 := Lib.hid (show (li us).length = 6 by rw [li_length, h1.l])
  have HX : Hid (fcode ns.length (li ns) (li us) (enc f) = 0) := Lib.hid (by unfold fcode; rw [hmk, hfk]; rfl)
  have HC := Lib.hid (fun W (hW : Below w.heap.size w W) => HX.out ▸ impl_modelCode ns.length _ _ v (li ns) (li us) (enc f) W (hm.a.below hW) (hm.u.below hW) (h.below hW) (by rw [E1.out]; have := h1.r.1; omega) (by rw [E2.out]; omega) (by omega))
  have HN := Lib.hid (fun W (hW : Below w.heap.size w W) => impl_newFilter ns us f A0 A1 c0 c1 v W (hm.below hW) h1 (h.below hW) hok hl)
  have HL := Lib.hid hl
  clear hb0 hk0 hm h hmk hfk h1 hl hb1 hk1
  go_enter Tryd.func19, Tryd.ntmps19
  go_upto_region 1 with fail
  generalize World.alloc (w.alloc _) _ = W at *
  have k0 := HK0.out.cell
  have l0 := HK0.out.lt
  go_wp2_with fail
  refine (HC.out _ HB.out).mono ?_
  rintro e w1 ⟨rfl, hb⟩
  have HB1 := Lib.hid (bthen HB.out hb)
  have HK2 := Lib.hid (HK0.out.below hb l0)
  have HK3 := Lib.hid (HK1.out.below hb HK1.out.lt)
  clear hb k0 l0
  have k0 := HK2.out.cell
  have l0 := HK2.out.lt
  go_wp2_with fail
  refine (HN.out _ HB1.out).mono ?_
  rintro e w2 ⟨F, A, cc, bx, dm, rfl, hF, hbl, ho, hbx, hdm, hb⟩
  have HB2 := Lib.hid (bthen HB1.out hb)
  have HFil : Hid (Fil w2 F ns us f A0 A1 A c0 c1 cc v bx dm) := Lib.hid ⟨hbl, HM.out.below (bthen HB1.out hb), ho.sl, hbx, hdm⟩
  have HK4 := Lib.hid (HK3.out.below hb HK3.out.lt)
  clear ho hb hbl hbx hdm k0 l0
  go_wp2_with fail
  refine (impl_least ns us f F A0 A1 A c0 c1 cc v bx dm _ HFil.out H1.out.r).mono ?_
  rintro e w3 ⟨B, d, rfl, ho, hb⟩
  have HK5 := Lib.hid (HK4.out.below hb HK4.out.lt)
  have HB3 := Lib.hid (bthen HB2.out hb)
  have O1 := Lib.hid ho
  have lt4 := Lib.hid HK4.out.lt
  have LE := Lib.hid HB2.out.size
  clear ho hb
  have rc := HK5.out.cell
  have rf := HK5.out.frozen
  have rl := HK5.out.lt
  go_wp2
  refine bodyPost_ret (v := .tuple #[.agg #[.int .i64 (acn ns us f : Nat), .slice B (acn ns us f) d], .int .i64 0]) (by simp [results, Tryd.results19, go_sem, rc, rf, rl]) rfl ⟨_, rfl, ?_, ?_⟩
  · refine Ow.mono (B := w2.heap.size) ?_ LE.out
    iterate 2 refine Ow.setBelow ?_ (show w.heap.size + 1 < w2.heap.size from lt4.out) _
    exact O1.out
  · iterate 2 refine Below.setCell ?_ (show w.heap.size ≤ w.heap.size + 1 from Nat.le_succ _) _
    exact HB3.out
set_option maxRecDepth 100000 in
theorem impl_LeastFiltration_bad (n : Int) (va vu vf : Value) (xs vs : List Int) (zs : List Nd) (w : World) (ha : Sl cI w va xs) (hu : Sl cI w vu vs) (hf : Sl cN w vf zs) (hl : xs.length ≤ 1048576) (hl' : vs.length ≤ 1048576) (hl2 : zs.length ≤ 1048576) (hc : mdOk n xs vs = false ∨ (mdOk n xs vs = true ∧ isF zs = false)) :
    Calls Tryd.prog 19 #[.agg #[.int .i64 n, va, vu], vf] w fun e w' => e = .returned (.tuple #[.agg #[.int .i64 0, .slice none 0 0], .int .i64 1]) ∧ Below w.heap.size w w' := by
  obtain ⟨A0, c0, rfl⟩ := ha.opn
  obtain ⟨A1, c1, rfl⟩ := hu.opn
  have hb0 := below_alloc' w (.cells #[.int .i64 n, .slice A0 xs.length c0, .slice A1 vs.length c1] 34)
  have hk0 := Blk.new w 34 #[.int .i64 n, .slice A0 xs.length c0, .slice A1 vs.length c1]
  have hb1 := below_alloc' (w.alloc (.cells #[.int .i64 n, .slice A0 xs.length c0, .slice A1 vs.length c1] 34)) (.cells #[.int .i64 0, .slice none 0 0] 32)
  have hk1 : Blk _ (w.heap.size + 1) _ _ := Blk.new' (w.alloc (.cells #[.int .i64 n, .slice A0 xs.length c0, .slice A1 vs.length c1] 34)) 32 #[.int .i64 0, .slice none 0 0] (by simp)
  have HB := Lib.hid (bthen hb0 hb1)
  have HK0 := Lib.hid (hk0.below hb1 hk0.lt)
  have HK1 := Lib.hid hk1
  have HX : Hid (fcode n xs vs zs = 1) := Lib.hid (by unfold fcode; rcases hc with hc | ⟨hc, hz⟩ <;> simp [hc, *])
  have HC := Lib.hid (fun W (hW : Below w.heap.size w W) => HX.out ▸ impl_modelCode n _ _ vf xs vs zs W (ha.below hW) (hu.below hW) (hf.below hW) hl hl' hl2)
  clear ha hu hf hb0 hk0 hc hb1 hk1
  go_enter Tryd.func19, Tryd.ntmps19
  go_upto_region 1 with fail
  generalize World.alloc (w.alloc _) _ = W at *
  have k0 := HK0.out.cell
  have l0 := HK0.out.lt
  go_wp2_with fail
  refine (HC.out _ HB.out).mono ?_
  rintro e w1 ⟨rfl, hb⟩
  have HB1 := Lib.hid (bthen HB.out hb)
  have hr := HK1.out.below hb HK1.out.lt
  have rc := hr.cell
  have rf := hr.frozen
  have rl := hr.lt
  have L1 := Lib.hid HK1.out.lt
  clear hb k0 hr
  go_wp2
  refine bodyPost_ret (v := .tuple #[.agg #[.int .i64 0, .slice none 0 0], .int .i64 1]) (by simp [results, Tryd.results19, go_sem, rc, rf, rl]) rfl ⟨rfl, ?_⟩
  iterate 2 refine Below.setCell ?_ (show w.heap.size ≤ w.heap.size + 1 from Nat.le_succ _) _
  exact HB1.out
set_option maxRecDepth 100000 in
theorem spec_LeastFiltration_ok (ns us : List Nat) (f : Fm) (A0 A1 : Option Addr) (c0 c1 : Nat) (v : Value) (w : World) (hm : Mdl w (.slice A0 ns.length c0) (.slice A1 6 c1) ns us) (h1 : MdN ns us) (h : Sl cN w v (enc f)) (hok : f.ok = true) (hl : (enc f).length ≤ 40) (hmk : mdOk ns.length (li ns) (li us) = true) (hfk : isF (enc f) = true) :
    Calls Tryd.prog 18 #[.agg #[.int .i64 ns.length, .slice A0 ns.length c0, .slice A1 6 c1], v] w fun e w' => ∃ u, e = .returned (.tuple #[.agg #[.int .i64 (acn ns us f : Nat), u], .int .i64 0]) ∧ Ow cI 2 w.heap.size w' u (li (lst ns us f)) ∧ Below w.heap.size w w' := by
  have hb0 := below_alloc' w (.cells #[.int .i64 ns.length, .slice A0 ns.length c0, .slice A1 6 c1] 34)
  have hk0 := Blk.new w 34 #[.int .i64 ns.length, .slice A0 ns.length c0, .slice A1 6 c1]
  have hb1 := below_alloc' (w.alloc (.cells #[.int .i64 ns.length, .slice A0 ns.length c0, .slice A1 6 c1] 34)) (.cells #[.int .i64 0, .slice none 0 0] 32)
  have hk1 : Blk _ (w.heap.size + 1) _ _ := Blk.new' (w.alloc (.cells #[.int .i64 ns.length, .slice A0 ns.length c0, .slice A1 6 c1] 34)) 32 #[.int .i64 0, .slice none 0 0] (by simp)
  have HB := Lib.hid (bthen hb0 hb1)
  have HK0 := Lib.hid (hk0.below hb1 hk0.lt)
  have HK1 := Lib.hid hk1
  have HM := Lib.hid hm
  have HF := Lib.hid h
  have H1 := Lib.hid h1
  have E1 := Lib.hid (li_length ns)
  have E2 := Lib.hid (show (li us).length = 6 by rw [li_length, h1.l])
  have HC := Lib.hid (fun W (hW : Below w.heap.size w W) => spec_l14Code_ok ns us f A0 A1 c0 c1 v W (hm.below hW) h1 (h.below hW) hok hl hmk hfk)
  have HL := Lib.hid hl
  clear hb0 hk0 hm h hmk hfk h1 hl hb1 hk1
  go_enter Tryd.func18, Tryd.ntmps18
  go_upto_region 1 with fail
  generalize World.alloc (w.alloc _) _ = W at *
  have k0 := HK0.out.cell
  have l0 := HK0.out.lt
  go_wp2_with fail
  refine (HC.out _ HB.out).mono ?_
  rintro e w1 ⟨s, rfl, ⟨A2, c2, A3, c3, Ab, nb, cb, Ai, ni, ci, Ao, no, co, rfl, ho, hsp⟩, hb⟩
  have HB1 := Lib.hid (bthen HB.out hb)
  have O1 := Lib.hid ho
  have HSP := Lib.hid hsp
  have LE := Lib.hid HB.out.size
  have HK3 := Lib.hid (HK1.out.below hb HK1.out.lt)
  clear ho hsp hb k0 l0
  have hba := below_alloc' w1 (.cells #[.int .i64 ns.length, .slice A0 ns.length c0, .slice A1 6 c1, .slice A2 ns.length c2, .slice A3 (acn ns us f) c3, .slice Ab nb cb, .slice Ai ni ci, .slice Ao no co] 52)
  have hbk := Blk.new w1 52 #[.int .i64 ns.length, .slice A0 ns.length c0, .slice A1 6 c1, .slice A2 ns.length c2, .slice A3 (acn ns us f) c3, .slice Ab nb cb, .slice Ai ni ci, .slice Ao no co]
  have HBA := Lib.hid (bthen HB1.out hba)
  have HBK := Lib.hid hbk
  have HSQ := Lib.hid (HSP.out.below hba)
  have HK4 := Lib.hid (HK3.out.below hba HK3.out.lt)
  clear hba hbk
  go_upto_region 4 with fail
  generalize World.alloc w1 _ = w2 at *
  have kS := HBK.out.cell
  have lS := HBK.out.lt
  go_wp2_with fail
  refine (spec_l14Least ns us (acl ns us f) [] (acn ns us f) A0 A1 A2 A3 c0 c1 c2 c3 Ab Ai Ao nb cb ni ci no co _ HSQ.out.md H1.out HSQ.out.cl (acl_length ns us f) (acl_lt ns us f) (Nat.le_trans (acn_le ns us f) H1.out.r.1)).mono ?_
  rintro e w3 ⟨u, rfl, ho, hb⟩
  change Ow cI _ _ _ _ (li (lst ns us f)) at ho
  have hll : (li (lst ns us f)).length = acn ns us f := by rw [li_length, lst_length]
  have HB3 := Lib.hid (bthen HBA.out hb)
  have HK5 := Lib.hid (HK4.out.below hb HK4.out.lt)
  have HO := Lib.hid ho
  have HLL := Lib.hid hll
  clear ho hb hll kS lS
  go_wp2_with fail
  refine (spec_l05Make _ _ _ HO.out.sl (by rw [HLL.out]; have := acn_le ns us f; have := H1.out.r.1; omega)).mono ?_
  rintro e w4 ⟨u2, rfl, ho, hb⟩
  obtain ⟨B, d, rfl⟩ := ho.opn
  rw [HLL.out] at ho ⊢
  have O2 := Lib.hid ho
  have HB4 := Lib.hid (bthen HB3.out hb)
  have HK6 := Lib.hid (HK5.out.below hb HK5.out.lt)
  have lt5 := Lib.hid HK5.out.lt
  have LE3 := Lib.hid HB3.out.size
  clear ho hb
  have rc := HK6.out.cell
  have rf := HK6.out.frozen
  have rl := HK6.out.lt
  go_wp2
  refine bodyPost_ret (v := .tuple #[.agg #[.int .i64 (acn ns us f : Nat), .slice B (acn ns us f) d], .int .i64 0]) (by simp [results, Tryd.results18, go_sem, rc, rf, rl]) rfl ⟨_, rfl, ?_, ?_⟩
  · refine Ow.mono (B := w3.heap.size) ?_ LE3.out
    iterate 2 refine Ow.setBelow ?_ (show w.heap.size + 1 < w3.heap.size from lt5.out) _
    exact O2.out
  · iterate 2 refine Below.setCell ?_ (show w.heap.size ≤ w.heap.size + 1 from Nat.le_succ _) _
    exact HB4.out
set_option maxRecDepth 100000 in
theorem spec_LeastFiltration_bad (n : Int) (va vu vf : Value) (xs vs : List Int) (zs : List Nd) (w : World) (ha : Sl cI w va xs) (hu : Sl cI w vu vs) (hf : Sl cN w vf zs) (hl : xs.length ≤ 1048576) (hl' : vs.length ≤ 1048576) (hl2 : zs.length ≤ 1048576) (hc : mdOk n xs vs = false ∨ (mdOk n xs vs = true ∧ isF zs = false)) :
    Calls Tryd.prog 18 #[.agg #[.int .i64 n, va, vu], vf] w fun e w' => e = .returned (.tuple #[.agg #[.int .i64 0, .slice none 0 0], .int .i64 1]) ∧ Below w.heap.size w w' := by
  obtain ⟨A0, c0, rfl⟩ := ha.opn
  obtain ⟨A1, c1, rfl⟩ := hu.opn
  have hb0 := below_alloc' w (.cells #[.int .i64 n, .slice A0 xs.length c0, .slice A1 vs.length c1] 34)
  have hk0 := Blk.new w 34 #[.int .i64 n, .slice A0 xs.length c0, .slice A1 vs.length c1]
  have hb1 := below_alloc' (w.alloc (.cells #[.int .i64 n, .slice A0 xs.length c0, .slice A1 vs.length c1] 34)) (.cells #[.int .i64 0, .slice none 0 0] 32)
  have hk1 : Blk _ (w.heap.size + 1) _ _ := Blk.new' (w.alloc (.cells #[.int .i64 n, .slice A0 xs.length c0, .slice A1 vs.length c1] 34)) 32 #[.int .i64 0, .slice none 0 0] (by simp)
  have HB := Lib.hid (bthen hb0 hb1)
  have HK0 := Lib.hid (hk0.below hb1 hk0.lt)
  have HK1 := Lib.hid hk1
  have HC := Lib.hid (fun W (hW : Below w.heap.size w W) => spec_l14Code_bad n _ _ vf xs vs zs W (ha.below hW) (hu.below hW) (hf.below hW) hl hl' hl2 hc)
  clear ha hu hf hb0 hk0 hc hb1 hk1
  go_enter Tryd.func18, Tryd.ntmps18
  go_upto_region 1 with fail
  generalize World.alloc (w.alloc _) _ = W at *
  have k0 := HK0.out.cell
  have l0 := HK0.out.lt
  go_wp2_with fail
  refine (HC.out _ HB.out).mono ?_
  rintro e w1 ⟨rfl, hb⟩
  have HB1 := Lib.hid (bthen HB.out hb)
  have hr := HK1.out.below hb HK1.out.lt
  have rc := hr.cell
  have rf := hr.frozen
  have rl := hr.lt
  have L1 := Lib.hid HK1.out.lt
  clear hb k0 hr
  have hba := below_alloc' w1 (.cells #[.int .i64 0, .slice none 0 0, .slice none 0 0, .slice none 0 0, .slice none 0 0, .slice none 0 0, .slice none 0 0, .slice none 0 0] 52)
  go_wp2
  refine bodyPost_ret (v := .tuple #[.agg #[.int .i64 0, .slice none 0 0], .int .i64 1]) (by simp [results, Tryd.results18, go_sem, rc, rf, rl]) rfl ⟨rfl, ?_⟩
  refine Below.alloc ?_ (by simp only [World.setCell, Array.size_modify]; have := HB1.out.size; omega) _
  iterate 2 refine Below.setCell ?_ (show w.heap.size ≤ w.heap.size + 1 from Nat.le_succ _) _
  exact HB1.out
set_option maxRecDepth 100000 in
theorem impl_AlikeClasses_ok (ns us : List Nat) (f : Fm) (A0 A1 : Option Addr) (c0 c1 : Nat) (v : Value) (w : World) (hm : Mdl w (.slice A0 ns.length c0) (.slice A1 6 c1) ns us) (h1 : MdN ns us) (h : Sl cN w v (enc f)) (hok : f.ok = true) (hl : (enc f).length ≤ 40) (hmk : mdOk ns.length (li ns) (li us) = true) (hfk : isF (enc f) = true) :
    Calls Tryd.prog 10 #[.agg #[.int .i64 ns.length, .slice A0 ns.length c0, .slice A1 6 c1], v] w fun e w' => ∃ u, e = .returned (.tuple #[u, .int .i64 0]) ∧ Ow cI 2 w.heap.size w' u (li (acl ns us f)) ∧ Below w.heap.size w w' := by
  have hb0 := below_alloc' w (.cells #[.int .i64 ns.length, .slice A0 ns.length c0, .slice A1 6 c1] 34)
  have hk0 := Blk.new w 34 #[.int .i64 ns.length, .slice A0 ns.length c0, .slice A1 6 c1]
  have HB := Lib.hid hb0
  have HK0 := Lib.hid hk0
  have HM := Lib.hid hm
  have HF := Lib.hid h
  have H1 := Lib.hid h1
  have E1 := Lib.hid (li_length ns)
  have E2 := Lib.hid (show (li us).length = 6 by rw [li_length, h1.l])
  have HX : Hid (fcode ns.length (li ns) (li us) (enc f) = 0) := Lib.hid (by unfold fcode; rw [hmk, hfk]; rfl)
  have HC := Lib.hid (fun W (hW : Below w.heap.size w W) => HX.out ▸ impl_modelCode ns.length _ _ v (li ns) (li us) (enc f) W (hm.a.below hW) (hm.u.below hW) (h.below hW) (by rw [E1.out]; have := h1.r.1; omega) (by rw [E2.out]; omega) (by omega))
  have HN := Lib.hid (fun W (hW : Below w.heap.size w W) => impl_newFilter ns us f A0 A1 c0 c1 v W (hm.below hW) h1 (h.below hW) hok hl)
  have HL := Lib.hid hl
  clear hb0 hk0 hm h hmk hfk h1 hl
  go_enter Tryd.func10, Tryd.ntmps10
  go_upto_region 1 with fail
  generalize World.alloc w _ = W at *
  have k0 := HK0.out.cell
  have l0 := HK0.out.lt
  go_wp2_with fail
  refine (HC.out _ HB.out).mono ?_
  rintro e w1 ⟨rfl, hb⟩
  have HB1 := Lib.hid (bthen HB.out hb)
  have HK2 := Lib.hid (HK0.out.below hb l0)
  clear hb k0 l0
  have k0 := HK2.out.cell
  have l0 := HK2.out.lt
  go_wp2_with fail
  refine (HN.out _ HB1.out).mono ?_
  rintro e w2 ⟨F, A, cc, bx, dm, rfl, hF, hbl, ho, hbx, hdm, hb⟩
  have HB2 := Lib.hid (bthen HB1.out hb)
  have O1 := Lib.hid ho
  have kF := hbl.cell
  have lF := hbl.lt
  have LE := Lib.hid HB1.out.size
  clear ho hb hbl hbx hdm k0
  go_wp2
  go_ret2
  exact ⟨_, rfl, O1.out.mono LE.out, HB2.out⟩
set_option maxRecDepth 100000 in
theorem impl_AlikeClasses_bad (n : Int) (va vu vf : Value) (xs vs : List Int) (zs : List Nd) (w : World) (ha : Sl cI w va xs) (hu : Sl cI w vu vs) (hf : Sl cN w vf zs) (hl : xs.length ≤ 1048576) (hl' : vs.length ≤ 1048576) (hl2 : zs.length ≤ 1048576) (hc : mdOk n xs vs = false ∨ (mdOk n xs vs = true ∧ isF zs = false)) :
    Calls Tryd.prog 10 #[.agg #[.int .i64 n, va, vu], vf] w fun e w' => e = .returned (.tuple #[.slice none 0 0, .int .i64 1]) ∧ Below w.heap.size w w' := by
  obtain ⟨A0, c0, rfl⟩ := ha.opn
  obtain ⟨A1, c1, rfl⟩ := hu.opn
  have hb0 := below_alloc' w (.cells #[.int .i64 n, .slice A0 xs.length c0, .slice A1 vs.length c1] 34)
  have hk0 := Blk.new w 34 #[.int .i64 n, .slice A0 xs.length c0, .slice A1 vs.length c1]
  have HB := Lib.hid hb0
  have HK0 := Lib.hid hk0
  have HX : Hid (fcode n xs vs zs = 1) := Lib.hid (by unfold fcode; rcases hc with hc | ⟨hc, hz⟩ <;> simp [hc, *])
  have HC := Lib.hid (fun W (hW : Below w.heap.size w W) => HX.out ▸ impl_modelCode n _ _ vf xs vs zs W (ha.below hW) (hu.below hW) (hf.below hW) hl hl' hl2)
  clear ha hu hf hb0 hk0 hc
  go_enter Tryd.func10, Tryd.ntmps10
  go_upto_region 1 with fail
  generalize World.alloc w _ = W at *
  have k0 := HK0.out.cell
  have l0 := HK0.out.lt
  go_wp2_with fail
  refine (HC.out _ HB.out).mono ?_
  rintro e w1 ⟨rfl, hb⟩
  have HB1 := Lib.hid (bthen HB.out hb)
  clear hb k0
  go_wp2
  go_ret2
  exact ⟨rfl, HB1.out⟩
set_option maxRecDepth 100000 in
theorem spec_AlikeClasses_ok (ns us : List Nat) (f : Fm) (A0 A1 : Option Addr) (c0 c1 : Nat) (v : Value) (w : World) (hm : Mdl w (.slice A0 ns.length c0) (.slice A1 6 c1) ns us) (h1 : MdN ns us) (h : Sl cN w v (enc f)) (hok : f.ok = true) (hl : (enc f).length ≤ 40) (hmk : mdOk ns.length (li ns) (li us) = true) (hfk : isF (enc f) = true) :
    Calls Tryd.prog 7 #[.agg #[.int .i64 ns.length, .slice A0 ns.length c0, .slice A1 6 c1], v] w fun e w' => ∃ u, e = .returned (.tuple #[u, .int .i64 0]) ∧ Ow cI 2 w.heap.size w' u (li (acl ns us f)) ∧ Below w.heap.size w w' := by
  have hb0 := below_alloc' w (.cells #[.int .i64 ns.length, .slice A0 ns.length c0, .slice A1 6 c1] 34)
  have hk0 := Blk.new w 34 #[.int .i64 ns.length, .slice A0 ns.length c0, .slice A1 6 c1]
  have HB := Lib.hid hb0
  have HK0 := Lib.hid hk0
  have HM := Lib.hid hm
  have HF := Lib.hid h
  have H1 := Lib.hid h1
  have E1 := Lib.hid (li_length ns)
  have E2 := Lib.hid (show (li us).length = 6 by rw [li_length, h1.l])
  have HC := Lib.hid (fun W (hW : Below w.heap.size w W) => spec_l14Code_ok ns us f A0 A1 c0 c1 v W (hm.below hW) h1 (h.below hW) hok hl hmk hfk)
  have HL := Lib.hid hl
  clear hb0 hk0 hm h hmk hfk h1 hl
  go_enter Tryd.func7, Tryd.ntmps7
  go_upto_region 1 with fail
  generalize World.alloc w _ = W at *
  have k0 := HK0.out.cell
  have l0 := HK0.out.lt
  go_wp2_with fail
  refine (HC.out _ HB.out).mono ?_
  rintro e w1 ⟨s, rfl, ⟨A2, c2, A3, c3, Ab, nb, cb, Ai, ni, ci, Ao, no, co, rfl, ho, hsp⟩, hb⟩
  have HB1 := Lib.hid (bthen HB.out hb)
  have O1 := Lib.hid ho
  have HSP := Lib.hid hsp
  have LE := Lib.hid HB.out.size
  clear ho hsp hb k0 l0
  go_wp2
  go_ret2
  have hba := below_alloc' w1 (.cells #[.int .i64 ns.length, .slice A0 ns.length c0, .slice A1 6 c1, .slice A2 ns.length c2, .slice A3 (acn ns us f) c3, .slice Ab nb cb, .slice Ai ni ci, .slice Ao no co] 52)
  exact ⟨_, rfl, (O1.out.mono LE.out).below hba, bthen HB1.out hba⟩
set_option maxRecDepth 100000 in
theorem spec_AlikeClasses_bad (n : Int) (va vu vf : Value) (xs vs : List Int) (zs : List Nd) (w : World) (ha : Sl cI w va xs) (hu : Sl cI w vu vs) (hf : Sl cN w vf zs) (hl : xs.length ≤ 1048576) (hl' : vs.length ≤ 1048576) (hl2 : zs.length ≤ 1048576) (hc : mdOk n xs vs = false ∨ (mdOk n xs vs = true ∧ isF zs = false)) :
    Calls Tryd.prog 7 #[.agg #[.int .i64 n, va, vu], vf] w fun e w' => e = .returned (.tuple #[.slice none 0 0, .int .i64 1]) ∧ Below w.heap.size w w' := by
  obtain ⟨A0, c0, rfl⟩ := ha.opn
  obtain ⟨A1, c1, rfl⟩ := hu.opn
  have hb0 := below_alloc' w (.cells #[.int .i64 n, .slice A0 xs.length c0, .slice A1 vs.length c1] 34)
  have hk0 := Blk.new w 34 #[.int .i64 n, .slice A0 xs.length c0, .slice A1 vs.length c1]
  have HB := Lib.hid hb0
  have HK0 := Lib.hid hk0
  have HC := Lib.hid (fun W (hW : Below w.heap.size w W) => spec_l14Code_bad n _ _ vf xs vs zs W (ha.below hW) (hu.below hW) (hf.below hW) hl hl' hl2 hc)
  clear ha hu hf hb0 hk0 hc
  go_enter Tryd.func7, Tryd.ntmps7
  go_upto_region 1 with fail
  generalize World.alloc w _ = W at *
  have k0 := HK0.out.cell
  have l0 := HK0.out.lt
  go_wp2_with fail
  refine (HC.out _ HB.out).mono ?_
  rintro e w1 ⟨rfl, hb⟩
  have HB1 := Lib.hid (bthen HB.out hb)
  clear hb k0
  go_wp2
  go_ret2
  exact ⟨rfl, HB1.out.alloc (by have := HB1.out.size; omega) _⟩
end Go.Proofs.YtodfcppfmpakjaaDoor

/- Contracts of SymmetricFiltration, of the program and of the reference. Written by gen14B.py. -/
import Derived.Test.YtcjplcliggciaaaGreatDoor14B
import Derived.Test.YtcjplcliggciaaaGreatDoor14C
import Derived.Test.YtcjplcliggciaaaGreatDoor14D
namespace Go.Proofs.YtcjplcliggciaaaGreatDoor
open Go.RowKit
set_option linter.unusedVariables false
set_option linter.unusedSimpArgs false
theorem en_SymmetricFiltration_1 : ∀ (args : Array Value) (w : World), (callFunc 66 args).run Tryz.prog w = .ok (.enter 66 args) w := enters Tryz.func66 (by kernel_rfl) (by kernel_rfl)
theorem impl_SymmetricFiltration_1 (ns us : List Nat) (f : Fm) (F : Nat) (A0 A1 A : Option Addr) (c0 c1 cc : Nat) (sf bx dm : Value) (x y : Nat) (w : World) (h : Fil w F ns us f A0 A1 A c0 c1 cc sf bx dm) (h1 : MdN ns us) (hl : (enc f).length ≤ 1000) (hx : x ≤ 8) (hy : y ≤ 8) :
    Calls Tryz.prog 66 #[.pointer (some ⟨F, 0, none⟩), .int .i64 x, .int .i64 y] w fun e w' => e = .returned (.bool (alw (mds ns us f (enc f).length) x y && alw (mds ns us f (enc f).length) y x)) ∧ Below w.heap.size w w' := by
  have HA := Lib.hid (impl_allows ns us f F A0 A1 A c0 c1 cc sf bx dm x y w h h1 hl hx hy)
  have HK := Lib.hid (fun W (hW : Below w.heap.size w W) => impl_allows ns us f F A0 A1 A c0 c1 cc sf bx dm y x W (h.below hW) h1 hl hy hx)
  clear h
  generalize alw (mds ns us f (enc f).length) y x = b2 at *
  generalize alw (mds ns us f (enc f).length) x y = b1 at *
  cases b1
  all_goals
    go_enter Tryz.func66, Tryz.ntmps66
    go_wp2_with fail
    refine HA.out.mono ?_
    rintro e w1 ⟨rfl, hb⟩
    have HB := Lib.hid hb
    clear hb
  · go_wp2
    go_ret
    exact ⟨rfl, HB.out⟩
  · go_wp2_with fail
    refine (HK.out _ HB.out).mono ?_
    rintro e w2 ⟨rfl, hb⟩
    have HB2 := Lib.hid (bthen HB.out hb)
    clear hb
    go_wp2
    go_ret
    exact ⟨rfl, HB2.out⟩
set_option maxRecDepth 100000 in
theorem impl_SymmetricFiltration_ok (ns us : List Nat) (f : Fm) (A0 A1 : Option Addr) (c0 c1 : Nat) (v : Value) (w : World) (hm : Mdl w (.slice A0 ns.length c0) (.slice A1 6 c1) ns us) (h1 : MdN ns us) (h : Sl cN w v (enc f)) (hok : f.ok = true) (hl : (enc f).length ≤ 40) (hmk : mdOk ns.length (li ns) (li us) = true) (hfk : isF (enc f) = true) (hfg : sym ns = true) :
    Calls Tryz.prog 29 #[.agg #[.int .i64 ns.length, .slice A0 ns.length c0, .slice A1 6 c1], v] w fun e w' => ∃ u, e = .returned (.tuple #[.agg #[.int .i64 (acn ns us f : Nat), u], .int .i64 0]) ∧ Ow cI 2 w.heap.size w' u (li (sfl ns us f)) ∧ Below w.heap.size w w' := by
  have hb0 := below_alloc' w (.cells #[.int .i64 ns.length, .slice A0 ns.length c0, .slice A1 6 c1] 35)
  have hk0 := Blk.new w 35 #[.int .i64 ns.length, .slice A0 ns.length c0, .slice A1 6 c1]
  have hb1 := below_alloc' (w.alloc (.cells #[.int .i64 ns.length, .slice A0 ns.length c0, .slice A1 6 c1] 35)) (.cells #[.int .i64 0, .slice none 0 0] 33)
  have hk1 : Blk _ (w.heap.size + 1) _ _ := Blk.new' (w.alloc (.cells #[.int .i64 ns.length, .slice A0 ns.length c0, .slice A1 6 c1] 35)) 33 #[.int .i64 0, .slice none 0 0] (by simp)
  have HB := Lib.hid (bthen hb0 hb1)
  have HK0 := Lib.hid (hk0.below hb1 hk0.lt)
  have HK1 := Lib.hid hk1
  have HC := Lib.hid (fun W (hW : Below w.heap.size w W) => impl_fw_ok ns us f A0 A1 c0 c1 v W (hm.below hW) h1 (h.below hW) hok hl hmk hfk 66 3 _ en_SymmetricFiltration_1 (fun F A cc bx dm W1 hF x y hx hy => impl_SymmetricFiltration_1 ns us f F A0 A1 A c0 c1 cc v bx dm x y W1 hF h1 (by omega) (by have := h1.r.1; omega) (by have := h1.r.1; omega)) (fun W1 hW1 => by have := impl_hasFlag_3 ns _ W1 hW1 h1.r; rwa [hfg] at this))
  rw [frm_sfl] at HC
  clear hb0 hk0 hm h hmk hfk h1 hl hb1 hk1
  go_enter Tryz.func29, Tryz.ntmps29
  go_upto_region 1 with fail
  generalize World.alloc (w.alloc _) _ = W at *
  have k0 := HK0.out.cell
  have l0 := HK0.out.lt
  go_wp2_with fail
  refine (HC.out _ HB.out).mono ?_
  rintro e w1 ⟨u, rfl, ho, hb⟩
  have hll : (li (sfl ns us f)).length = acn ns us f := by rw [li_length, sfl_length]
  obtain ⟨B, d, rfl⟩ := ho.opn
  rw [hll] at ho ⊢
  have HB1 := Lib.hid (bthen HB.out hb)
  have HK2 := Lib.hid (HK1.out.below hb HK1.out.lt)
  have O1 := Lib.hid ho
  have lt4 := Lib.hid HK1.out.lt
  have LE := Lib.hid HB.out.size
  clear ho hb k0 l0 hll
  have rc := HK2.out.cell
  have rf := HK2.out.frozen
  have rl := HK2.out.lt
  go_wp2
  refine bodyPost_ret (v := .tuple #[.agg #[.int .i64 (acn ns us f : Nat), .slice B (acn ns us f) d], .int .i64 0]) (by simp [results, Tryz.results29, go_sem, rc, rf, rl]) rfl ⟨_, rfl, ?_, ?_⟩
  · refine Ow.mono (B := W.heap.size) ?_ LE.out
    iterate 2 refine Ow.setBelow ?_ (show w.heap.size + 1 < W.heap.size from lt4.out) _
    exact O1.out
  · iterate 2 refine Below.setCell ?_ (show w.heap.size ≤ w.heap.size + 1 from Nat.le_succ _) _
    exact HB1.out
set_option maxRecDepth 100000 in
theorem impl_SymmetricFiltration_state (ns us : List Nat) (f : Fm) (A0 A1 : Option Addr) (c0 c1 : Nat) (v : Value) (w : World) (hm : Mdl w (.slice A0 ns.length c0) (.slice A1 6 c1) ns us) (h1 : MdN ns us) (h : Sl cN w v (enc f)) (hok : f.ok = true) (hl : (enc f).length ≤ 40) (hmk : mdOk ns.length (li ns) (li us) = true) (hfk : isF (enc f) = true) (hfg : sym ns = false) :
    Calls Tryz.prog 29 #[.agg #[.int .i64 ns.length, .slice A0 ns.length c0, .slice A1 6 c1], v] w fun e w' => e = .returned (.tuple #[.agg #[.int .i64 0, .slice none 0 0], .int .i64 5]) ∧ Below w.heap.size w w' := by
  have hb0 := below_alloc' w (.cells #[.int .i64 ns.length, .slice A0 ns.length c0, .slice A1 6 c1] 35)
  have hk0 := Blk.new w 35 #[.int .i64 ns.length, .slice A0 ns.length c0, .slice A1 6 c1]
  have hb1 := below_alloc' (w.alloc (.cells #[.int .i64 ns.length, .slice A0 ns.length c0, .slice A1 6 c1] 35)) (.cells #[.int .i64 0, .slice none 0 0] 33)
  have hk1 : Blk _ (w.heap.size + 1) _ _ := Blk.new' (w.alloc (.cells #[.int .i64 ns.length, .slice A0 ns.length c0, .slice A1 6 c1] 35)) 33 #[.int .i64 0, .slice none 0 0] (by simp)
  have HB := Lib.hid (bthen hb0 hb1)
  have HK0 := Lib.hid (hk0.below hb1 hk0.lt)
  have HK1 := Lib.hid hk1
  have HC := Lib.hid (fun W (hW : Below w.heap.size w W) => impl_fw_state ns us f A0 A1 c0 c1 v W (hm.below hW) h1 (h.below hW) hok hl hmk hfk 66 3 (fun W1 hW1 => by have := impl_hasFlag_3 ns _ W1 hW1 h1.r; rwa [hfg] at this))
  clear hb0 hk0 hm h hmk hfk h1 hl hb1 hk1
  go_enter Tryz.func29, Tryz.ntmps29
  go_upto_region 1 with fail
  generalize World.alloc (w.alloc _) _ = W at *
  have k0 := HK0.out.cell
  have l0 := HK0.out.lt
  go_wp2_with fail
  refine (HC.out _ HB.out).mono ?_
  rintro e w1 ⟨rfl, hb⟩
  have HB1 := Lib.hid (bthen HB.out hb)
  have HK2 := Lib.hid (HK1.out.below hb HK1.out.lt)
  clear hb k0 l0
  have rc := HK2.out.cell
  have rf := HK2.out.frozen
  have rl := HK2.out.lt
  go_wp2
  refine bodyPost_ret (v := .tuple #[.agg #[.int .i64 0, .slice none 0 0], .int .i64 5]) (by simp [results, Tryz.results29, go_sem, rc, rf, rl]) rfl ⟨rfl, ?_⟩
  iterate 2 refine Below.setCell ?_ (show w.heap.size ≤ w.heap.size + 1 from Nat.le_succ _) _
  exact HB1.out
set_option maxRecDepth 100000 in
theorem impl_SymmetricFiltration_bad (n : Int) (va vu vf : Value) (xs vs : List Int) (zs : List Nd) (w : World) (ha : Sl cI w va xs) (hu : Sl cI w vu vs) (hf : Sl cN w vf zs) (hl : xs.length ≤ 1048576) (hl' : vs.length ≤ 1048576) (hl2 : zs.length ≤ 1048576) (hc : mdOk n xs vs = false ∨ (mdOk n xs vs = true ∧ isF zs = false)) :
    Calls Tryz.prog 29 #[.agg #[.int .i64 n, va, vu], vf] w fun e w' => e = .returned (.tuple #[.agg #[.int .i64 0, .slice none 0 0], .int .i64 1]) ∧ Below w.heap.size w w' := by
  obtain ⟨A0, c0, rfl⟩ := ha.opn
  obtain ⟨A1, c1, rfl⟩ := hu.opn
  have hb0 := below_alloc' w (.cells #[.int .i64 n, .slice A0 xs.length c0, .slice A1 vs.length c1] 35)
  have hk0 := Blk.new w 35 #[.int .i64 n, .slice A0 xs.length c0, .slice A1 vs.length c1]
  have hb1 := below_alloc' (w.alloc (.cells #[.int .i64 n, .slice A0 xs.length c0, .slice A1 vs.length c1] 35)) (.cells #[.int .i64 0, .slice none 0 0] 33)
  have hk1 : Blk _ (w.heap.size + 1) _ _ := Blk.new' (w.alloc (.cells #[.int .i64 n, .slice A0 xs.length c0, .slice A1 vs.length c1] 35)) 33 #[.int .i64 0, .slice none 0 0] (by simp)
  have HB := Lib.hid (bthen hb0 hb1)
  have HK0 := Lib.hid (hk0.below hb1 hk0.lt)
  have HK1 := Lib.hid hk1
  have HC := Lib.hid (fun W (hW : Below w.heap.size w W) => impl_fw_bad n _ _ vf xs vs zs 66 3 W (ha.below hW) (hu.below hW) (hf.below hW) hl hl' hl2 hc)
  clear ha hu hf hb0 hk0 hc hb1 hk1
  go_enter Tryz.func29, Tryz.ntmps29
  go_upto_region 1 with fail
  generalize World.alloc (w.alloc _) _ = W at *
  have k0 := HK0.out.cell
  have l0 := HK0.out.lt
  go_wp2_with fail
  refine (HC.out _ HB.out).mono ?_
  rintro e w1 ⟨rfl, hb⟩
  have HB1 := Lib.hid (bthen HB.out hb)
  have hr := HK1.out.below hb HK1.out.lt
  have rc := hr.cell
  have rf := hr.frozen
  have rl := hr.lt
  have L1 := Lib.hid HK1.out.lt
  clear hb k0 hr
  go_wp2
  refine bodyPost_ret (v := .tuple #[.agg #[.int .i64 0, .slice none 0 0], .int .i64 1]) (by simp [results, Tryz.results29, go_sem, rc, rf, rl]) rfl ⟨rfl, ?_⟩
  iterate 2 refine Below.setCell ?_ (show w.heap.size ≤ w.heap.size + 1 from Nat.le_succ _) _
  exact HB1.out
set_option maxRecDepth 100000 in
theorem spec_SymmetricFiltration_ok (ns us : List Nat) (f : Fm) (A0 A1 : Option Addr) (c0 c1 : Nat) (v : Value) (w : World) (hm : Mdl w (.slice A0 ns.length c0) (.slice A1 6 c1) ns us) (h1 : MdN ns us) (h : Sl cN w v (enc f)) (hok : f.ok = true) (hl : (enc f).length ≤ 40) (hmk : mdOk ns.length (li ns) (li us) = true) (hfk : isF (enc f) = true) (hfg : sym ns = true) :
    Calls Tryz.prog 28 #[.agg #[.int .i64 ns.length, .slice A0 ns.length c0, .slice A1 6 c1], v] w fun e w' => ∃ u, e = .returned (.tuple #[.agg #[.int .i64 (acn ns us f : Nat), u], .int .i64 0]) ∧ Ow cI 2 w.heap.size w' u (li (sfl ns us f)) ∧ Below w.heap.size w w' := by
  have hb0 := below_alloc' w (.cells #[.int .i64 ns.length, .slice A0 ns.length c0, .slice A1 6 c1] 35)
  have hk0 := Blk.new w 35 #[.int .i64 ns.length, .slice A0 ns.length c0, .slice A1 6 c1]
  have hb1 := below_alloc' (w.alloc (.cells #[.int .i64 ns.length, .slice A0 ns.length c0, .slice A1 6 c1] 35)) (.cells #[.int .i64 0, .slice none 0 0] 33)
  have hk1 : Blk _ (w.heap.size + 1) _ _ := Blk.new' (w.alloc (.cells #[.int .i64 ns.length, .slice A0 ns.length c0, .slice A1 6 c1] 35)) 33 #[.int .i64 0, .slice none 0 0] (by simp)
  have HB := Lib.hid (bthen hb0 hb1)
  have HK0 := Lib.hid (hk0.below hb1 hk0.lt)
  have HK1 := Lib.hid hk1
  have HM := Lib.hid hm
  have HF := Lib.hid h
  have H1 := Lib.hid h1
  have E1 := Lib.hid (li_length ns)
  have E2 := Lib.hid (show (li us).length = 6 by rw [li_length, h1.l])
  have HC := Lib.hid (fun W (hW : Below w.heap.size w W) => spec_l14Code_ok ns us f A0 A1 c0 c1 v W (hm.below hW) h1 (h.below hW) hok hl hmk hfk)
  have HL := Lib.hid hl
  have HFg := fun W (hW : Below w.heap.size w W) => spec_l05Flag_3 ns _ W (hm.a.below hW) h1.r
  rw [hfg] at HFg
  replace HFg := Lib.hid HFg
  clear hb0 hk0 hm h hmk hfk h1 hl hb1 hk1
  go_enter Tryz.func28, Tryz.ntmps28
  go_upto_region 1 with fail
  generalize World.alloc (w.alloc _) _ = W at *
  have k0 := HK0.out.cell
  have l0 := HK0.out.lt
  go_wp2_with fail
  refine (HC.out _ HB.out).mono ?_
  rintro e w1 ⟨s, rfl, ⟨A2, c2, A3, c3, Ab, nb, cb, Ai, ni, ci, Ao, no, co, rfl, ho, hsp⟩, hb⟩
  have HB1 := Lib.hid (bthen HB.out hb)
  have O1 := Lib.hid ho
  have HSP := Lib.hid hsp
  have LE := Lib.hid HB.out.size
  have HK3 := Lib.hid (HK1.out.below hb HK1.out.lt)
  have HK0c := Lib.hid (HK0.out.below hb HK0.out.lt)
  clear ho hsp hb k0 l0
  have hba := below_alloc' w1 (.cells #[.int .i64 ns.length, .slice A0 ns.length c0, .slice A1 6 c1, .slice A2 ns.length c2, .slice A3 (acn ns us f) c3, .slice Ab nb cb, .slice Ai ni ci, .slice Ao no co] 62)
  have hbk := Blk.new w1 62 #[.int .i64 ns.length, .slice A0 ns.length c0, .slice A1 6 c1, .slice A2 ns.length c2, .slice A3 (acn ns us f) c3, .slice Ab nb cb, .slice Ai ni ci, .slice Ao no co]
  have HBA := Lib.hid (bthen HB1.out hba)
  have HBK := Lib.hid hbk
  have HSQ := Lib.hid (HSP.out.below hba)
  have HK4 := Lib.hid (HK3.out.below hba HK3.out.lt)
  have HK0b := Lib.hid ((HK0c.out.below hba HK0c.out.lt))
  clear hba hbk
  go_upto_region 4 with fail
  generalize World.alloc w1 _ = w2 at *
  have kM0 : w2.cell? ⟨w.heap.size, 0, none⟩ = some (.int .i64 (ns.length : Int)) := HK0b.out.cell 0
  have kM1 : w2.cell? ⟨w.heap.size, 1, none⟩ = some (.slice A0 ns.length c0) := HK0b.out.cell 1
  have lM := HK0b.out.lt
  go_wp2_with fail
  refine (HFg.out _ HBA.out).mono ?_
  rintro e w2b ⟨rfl, hb⟩
  have HBA2 := Lib.hid (bthen HBA.out hb)
  have HBK2 := Lib.hid (HBK.out.below hb HBK.out.lt)
  have HSQ2 := Lib.hid (HSQ.out.below hb)
  have HK42 := Lib.hid (HK4.out.below hb HK4.out.lt)
  clear hb kM0 kM1 lM
  have kS := HBK2.out.cell
  have lS := HBK2.out.lt
  go_wp2_with fail
  refine (spec_l14Greatest ns us (afw ns us f) f (acn ns us f) ns.length A0 A1 A2 A3 c0 c1 c2 c3 Ab Ai Ao nb cb ni ci no co false true _ HSQ2.out H1.out (by have := HL.out; omega) rfl (afw_length ns us f) (Nat.le_trans (acn_le ns us f) H1.out.r.1) (fun i => afw_le8 ns us f H1.out.r.1 i)).mono ?_
  rintro e w3 ⟨u, rfl, ho, hb⟩
  rw [show lnk (acn ns us f) (acn ns us f) (gp (may (mds ns us f (enc f).length) false) true (afw ns us f)) = sfl ns us f from rfl] at ho
  have hll : (li (sfl ns us f)).length = acn ns us f := by rw [li_length, sfl_length]
  have HB3 := Lib.hid (bthen HBA2.out hb)
  have HK5 := Lib.hid (HK42.out.below hb HK42.out.lt)
  have HO := Lib.hid ho
  have HLL := Lib.hid hll
  clear ho hb hll kS lS
  go_wp2_with fail
  refine (spec_l05Make _ _ _ HO.out.sl (by rw [HLL.out]; have := acn_le ns us f; have := H1.out.r.1; omega)).mono ?_
  rintro e w4 ⟨u2, rfl, ho, hb⟩
  obtain ⟨B, d, rfl⟩ := ho.opn
  rw [HLL.out] at ho ⊢
  have O2 := Lib.hid ho
  have HB4 := Lib.hid (bthen HB3.out hb)
  have HK6 := Lib.hid (HK5.out.below hb HK5.out.lt)
  have lt5 := Lib.hid HK5.out.lt
  have LE3 := Lib.hid HB3.out.size
  clear ho hb
  have rc := HK6.out.cell
  have rf := HK6.out.frozen
  have rl := HK6.out.lt
  go_wp2
  refine bodyPost_ret (v := .tuple #[.agg #[.int .i64 (acn ns us f : Nat), .slice B (acn ns us f) d], .int .i64 0]) (by simp [results, Tryz.results28, go_sem, rc, rf, rl]) rfl ⟨_, rfl, ?_, ?_⟩
  · refine Ow.mono (B := w3.heap.size) ?_ LE3.out
    iterate 2 refine Ow.setBelow ?_ (show w.heap.size + 1 < w3.heap.size from lt5.out) _
    exact O2.out
  · iterate 2 refine Below.setCell ?_ (show w.heap.size ≤ w.heap.size + 1 from Nat.le_succ _) _
    exact HB4.out
set_option maxRecDepth 100000 in
theorem spec_SymmetricFiltration_state (ns us : List Nat) (f : Fm) (A0 A1 : Option Addr) (c0 c1 : Nat) (v : Value) (w : World) (hm : Mdl w (.slice A0 ns.length c0) (.slice A1 6 c1) ns us) (h1 : MdN ns us) (h : Sl cN w v (enc f)) (hok : f.ok = true) (hl : (enc f).length ≤ 40) (hmk : mdOk ns.length (li ns) (li us) = true) (hfk : isF (enc f) = true) (hfg : sym ns = false) :
    Calls Tryz.prog 28 #[.agg #[.int .i64 ns.length, .slice A0 ns.length c0, .slice A1 6 c1], v] w fun e w' => e = .returned (.tuple #[.agg #[.int .i64 0, .slice none 0 0], .int .i64 5]) ∧ Below w.heap.size w w' := by
  have hb0 := below_alloc' w (.cells #[.int .i64 ns.length, .slice A0 ns.length c0, .slice A1 6 c1] 35)
  have hk0 := Blk.new w 35 #[.int .i64 ns.length, .slice A0 ns.length c0, .slice A1 6 c1]
  have hb1 := below_alloc' (w.alloc (.cells #[.int .i64 ns.length, .slice A0 ns.length c0, .slice A1 6 c1] 35)) (.cells #[.int .i64 0, .slice none 0 0] 33)
  have hk1 : Blk _ (w.heap.size + 1) _ _ := Blk.new' (w.alloc (.cells #[.int .i64 ns.length, .slice A0 ns.length c0, .slice A1 6 c1] 35)) 33 #[.int .i64 0, .slice none 0 0] (by simp)
  have HB := Lib.hid (bthen hb0 hb1)
  have HK0 := Lib.hid (hk0.below hb1 hk0.lt)
  have HK1 := Lib.hid hk1
  have HM := Lib.hid hm
  have HF := Lib.hid h
  have H1 := Lib.hid h1
  have E1 := Lib.hid (li_length ns)
  have E2 := Lib.hid (show (li us).length = 6 by rw [li_length, h1.l])
  have HC := Lib.hid (fun W (hW : Below w.heap.size w W) => spec_l14Code_ok ns us f A0 A1 c0 c1 v W (hm.below hW) h1 (h.below hW) hok hl hmk hfk)
  have HL := Lib.hid hl
  have HFg := fun W (hW : Below w.heap.size w W) => spec_l05Flag_3 ns _ W (hm.a.below hW) h1.r
  rw [hfg] at HFg
  replace HFg := Lib.hid HFg
  clear hb0 hk0 hm h hmk hfk h1 hl hb1 hk1
  go_enter Tryz.func28, Tryz.ntmps28
  go_upto_region 1 with fail
  generalize World.alloc (w.alloc _) _ = W at *
  have k0 := HK0.out.cell
  have l0 := HK0.out.lt
  go_wp2_with fail
  refine (HC.out _ HB.out).mono ?_
  rintro e w1 ⟨s, rfl, ⟨A2, c2, A3, c3, Ab, nb, cb, Ai, ni, ci, Ao, no, co, rfl, ho, hsp⟩, hb⟩
  have HB1 := Lib.hid (bthen HB.out hb)
  have O1 := Lib.hid ho
  have HSP := Lib.hid hsp
  have LE := Lib.hid HB.out.size
  have HK3 := Lib.hid (HK1.out.below hb HK1.out.lt)
  have HK0c := Lib.hid (HK0.out.below hb HK0.out.lt)
  clear ho hsp hb k0 l0
  have hba := below_alloc' w1 (.cells #[.int .i64 ns.length, .slice A0 ns.length c0, .slice A1 6 c1, .slice A2 ns.length c2, .slice A3 (acn ns us f) c3, .slice Ab nb cb, .slice Ai ni ci, .slice Ao no co] 62)
  have hbk := Blk.new w1 62 #[.int .i64 ns.length, .slice A0 ns.length c0, .slice A1 6 c1, .slice A2 ns.length c2, .slice A3 (acn ns us f) c3, .slice Ab nb cb, .slice Ai ni ci, .slice Ao no co]
  have HBA := Lib.hid (bthen HB1.out hba)
  have HBK := Lib.hid hbk
  have HSQ := Lib.hid (HSP.out.below hba)
  have HK4 := Lib.hid (HK3.out.below hba HK3.out.lt)
  have HK0b := Lib.hid ((HK0c.out.below hba HK0c.out.lt))
  clear hba hbk
  go_upto_region 4 with fail
  generalize World.alloc w1 _ = w2 at *
  have kM0 : w2.cell? ⟨w.heap.size, 0, none⟩ = some (.int .i64 (ns.length : Int)) := HK0b.out.cell 0
  have kM1 : w2.cell? ⟨w.heap.size, 1, none⟩ = some (.slice A0 ns.length c0) := HK0b.out.cell 1
  have lM := HK0b.out.lt
  go_wp2_with fail
  refine (HFg.out _ HBA.out).mono ?_
  rintro e w2b ⟨rfl, hb⟩
  have HBA2 := Lib.hid (bthen HBA.out hb)
  have HK42 := Lib.hid (HK4.out.below hb HK4.out.lt)
  clear hb kM0 kM1 lM
  have rc := HK42.out.cell
  have rf := HK42.out.frozen
  have rl := HK42.out.lt
  go_wp2
  refine bodyPost_ret (v := .tuple #[.agg #[.int .i64 0, .slice none 0 0], .int .i64 5]) (by simp [results, Tryz.results28, go_sem, rc, rf, rl]) rfl ⟨rfl, ?_⟩
  iterate 2 refine Below.setCell ?_ (show w.heap.size ≤ w.heap.size + 1 from Nat.le_succ _) _
  exact HBA2.out
set_option maxRecDepth 100000 in
theorem spec_SymmetricFiltration_bad (n : Int) (va vu vf : Value) (xs vs : List Int) (zs : List Nd) (w : World) (ha : Sl cI w va xs) (hu : Sl cI w vu vs) (hf : Sl cN w vf zs) (hl : xs.length ≤ 1048576) (hl' : vs.length ≤ 1048576) (hl2 : zs.length ≤ 1048576) (hc : mdOk n xs vs = false ∨ (mdOk n xs vs = true ∧ isF zs = false)) :
    Calls Tryz.prog 28 #[.agg #[.int .i64 n, va, vu], vf] w fun e w' => e = .returned (.tuple #[.agg #[.int .i64 0, .slice none 0 0], .int .i64 1]) ∧ Below w.heap.size w w' := by
  obtain ⟨A0, c0, rfl⟩ := ha.opn
  obtain ⟨A1, c1, rfl⟩ := hu.opn
  have hb0 := below_alloc' w (.cells #[.int .i64 n, .slice A0 xs.length c0, .slice A1 vs.length c1] 35)
  have hk0 := Blk.new w 35 #[.int .i64 n, .slice A0 xs.length c0, .slice A1 vs.length c1]
  have hb1 := below_alloc' (w.alloc (.cells #[.int .i64 n, .slice A0 xs.length c0, .slice A1 vs.length c1] 35)) (.cells #[.int .i64 0, .slice none 0 0] 33)
  have hk1 : Blk _ (w.heap.size + 1) _ _ := Blk.new' (w.alloc (.cells #[.int .i64 n, .slice A0 xs.length c0, .slice A1 vs.length c1] 35)) 33 #[.int .i64 0, .slice none 0 0] (by simp)
  have HB := Lib.hid (bthen hb0 hb1)
  have HK0 := Lib.hid (hk0.below hb1 hk0.lt)
  have HK1 := Lib.hid hk1
  have HC := Lib.hid (fun W (hW : Below w.heap.size w W) => spec_l14Code_bad n _ _ vf xs vs zs W (ha.below hW) (hu.below hW) (hf.below hW) hl hl' hl2 hc)
  clear ha hu hf hb0 hk0 hc hb1 hk1
  go_enter Tryz.func28, Tryz.ntmps28
  go_upto_region 1 with fail
  generalize World.alloc (w.alloc _) _ = W at *
  have k0 := HK0.out.cell
  have l0 := HK0.out.lt
  go_wp2_with fail
  refine (HC.out _ HB.out).mono ?_
  rintro e w1 ⟨rfl, hb⟩
  have HB1 := Lib.hid (bthen HB.out hb)
  have hr := HK1.out.below hb HK1.out.lt
  have rc := hr.cell
  have rf := hr.frozen
  have rl := hr.lt
  have L1 := Lib.hid HK1.out.lt
  clear hb k0 hr
  have hba := below_alloc' w1 (.cells #[.int .i64 0, .slice none 0 0, .slice none 0 0, .slice none 0 0, .slice none 0 0, .slice none 0 0, .slice none 0 0, .slice none 0 0] 62)
  go_wp2
  refine bodyPost_ret (v := .tuple #[.agg #[.int .i64 0, .slice none 0 0], .int .i64 1]) (by simp [results, Tryz.results28, go_sem, rc, rf, rl]) rfl ⟨rfl, ?_⟩
  refine Below.alloc ?_ (by simp only [World.setCell, Array.size_modify]; have := HB1.out.size; omega) _
  iterate 2 refine Below.setCell ?_ (show w.heap.size ≤ w.heap.size + 1 from Nat.le_succ _) _
  exact HB1.out
end Go.Proofs.YtcjplcliggciaaaGreatDoor

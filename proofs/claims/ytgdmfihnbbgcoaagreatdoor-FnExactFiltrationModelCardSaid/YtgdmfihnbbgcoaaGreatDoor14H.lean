/- Contracts of chapter 14: FiltrationModel, of the reference: bad inputs. -/
import Derived.Test.YtgdmfihnbbgcoaaGreatDoor14y
import Derived.Test.YtgdmfihnbbgcoaaGreatDoorM14t
namespace Go.Proofs.YtgdmfihnbbgcoaaGreatDoor
open Go.RowKit
set_option linter.unusedVariables false
set_option linter.unusedSimpArgs false
set_option maxRecDepth 100000 in
theorem spec_FiltrationModel_bad1 (n k : Int) (va vu vf vg : Value) (xs vs gs : List Int) (zs : List Nd) (w : World) (ha : Sl cI w va xs) (hu : Sl cI w vu vs) (hf : Sl cN w vf zs) (hg : Sl cI w vg gs) (hl : xs.length ≤ 1048576) (hl' : vs.length ≤ 1048576) (hl2 : zs.length ≤ 1048576) (hl3 : gs.length ≤ 1048576)
    (hc : mdOk n xs vs = false ∨ (mdOk n xs vs = true ∧ isF zs = false)) :
    Calls Tryz.prog 9 #[.agg #[.int .i64 n, va, vu], vf, .agg #[.int .i64 k, vg]] w fun e w' => e = .returned (.tuple #[.agg #[.int .i64 0, .slice none 0 0, .slice none 0 0], .int .i64 1]) ∧ Below w.heap.size w w' := by
  obtain ⟨A0, c0, rfl⟩ := ha.opn
  obtain ⟨A1, c1, rfl⟩ := hu.opn
  obtain ⟨A4, c4, rfl⟩ := hg.opn
  have hb0 := below_alloc' w (.cells #[.int .i64 n, .slice A0 xs.length c0, .slice A1 vs.length c1] 33)
  have hk0 := Blk.new w 33 #[.int .i64 n, .slice A0 xs.length c0, .slice A1 vs.length c1]
  have hb1 := below_alloc' (w.alloc (.cells #[.int .i64 n, .slice A0 xs.length c0, .slice A1 vs.length c1] 33)) (.cells #[.int .i64 k, .slice A4 gs.length c4] 31)
  have hb2 := below_alloc' ((w.alloc (.cells #[.int .i64 n, .slice A0 xs.length c0, .slice A1 vs.length c1] 33)).alloc (.cells #[.int .i64 k, .slice A4 gs.length c4] 31)) (.cells #[.int .i64 0, .slice none 0 0, .slice none 0 0] 33)
  have hk2 : Blk _ (w.heap.size + 2) _ _ := Blk.new' ((w.alloc (.cells #[.int .i64 n, .slice A0 xs.length c0, .slice A1 vs.length c1] 33)).alloc (.cells #[.int .i64 k, .slice A4 gs.length c4] 31)) 33 #[.int .i64 0, .slice none 0 0, .slice none 0 0] (by simp)
  have HB := Lib.hid (bthen (bthen hb0 hb1) hb2)
  have HK2 := Lib.hid hk2
  have HK0 := Lib.hid ((hk0.below hb1 hk0.lt).below hb2 (hk0.below hb1 hk0.lt).lt)
  have HC := Lib.hid (fun W (hW : Below w.heap.size w W) => spec_l14Code_bad n _ _ vf xs vs zs W (ha.below hW) (hu.below hW) (hf.below hW) hl hl' hl2 hc)
  clear hb2 hk2 hb0 hb1 hk0 ha hu hf hg hc
  go_enter Tryz.func9, Tryz.ntmps9
  go_upto_region 1 with fail
  generalize World.alloc (World.alloc (w.alloc _) _) _ = W at *
  have k0 := HK0.out.cell
  have l0 := HK0.out.lt
  go_wp2_with fail
  refine (HC.out _ HB.out).mono ?_
  rintro e w1 ⟨rfl, hb⟩
  have HB1 := Lib.hid (bthen HB.out hb)
  have hr0 := HK2.out.below hb HK2.out.lt
  have hr1 := hr0.alloc (.cells #[.int .i64 0, .slice none 0 0, .slice none 0 0, .slice none 0 0, .slice none 0 0, .slice none 0 0, .slice none 0 0, .slice none 0 0] 59)
  have HB2 := Lib.hid (HB1.out.alloc HB1.out.size (.cells #[.int .i64 0, .slice none 0 0, .slice none 0 0, .slice none 0 0, .slice none 0 0, .slice none 0 0, .slice none 0 0, .slice none 0 0] 59))
  clear hb k0 l0 hr0
  go_upto_region 2 with fail
  generalize World.alloc w1 _ = w2 at *
  have rc := hr1.cell
  have rf := hr1.frozen
  have rl := hr1.lt
  clear hr1
  go_wp2
  refine bodyPost_ret (v := .tuple #[.agg #[.int .i64 0, .slice none 0 0, .slice none 0 0], .int .i64 1]) (by simp [results, Tryz.results9, go_sem, rc, rf, rl]) rfl ⟨rfl, ?_⟩
  first | exact (((HB2.out).setCell (by show w.heap.size ≤ w.heap.size + 2; omega) _).setCell (by show w.heap.size ≤ w.heap.size + 2; omega) _).setCell (by show w.heap.size ≤ w.heap.size + 2; omega) _ | exact HB2.out
set_option maxRecDepth 100000 in
theorem spec_FiltrationModel_bad2 (ns us : List Nat) (f : Fm) (A0 A1 : Option Addr) (c0 c1 : Nat) (v vg : Value) (k : Int) (gs : List Int) (w : World) (hm : Mdl w (.slice A0 ns.length c0) (.slice A1 6 c1) ns us) (h1 : MdN ns us) (h : Sl cN w v (enc f)) (hok : f.ok = true) (hl : (enc f).length ≤ 40) (hmk : mdOk ns.length (li ns) (li us) = true) (hfk : isF (enc f) = true) (hg : Sl cI w vg gs) (hl3 : gs.length ≤ 1048576) (hfr : frOk k gs = false) :
    Calls Tryz.prog 9 #[.agg #[.int .i64 ns.length, .slice A0 ns.length c0, .slice A1 6 c1], v, .agg #[.int .i64 k, vg]] w fun e w' => e = .returned (.tuple #[.agg #[.int .i64 0, .slice none 0 0, .slice none 0 0], .int .i64 1]) ∧ Below w.heap.size w w' := by
  obtain ⟨A4, c4, rfl⟩ := hg.opn
  have hb0 := below_alloc' w (.cells #[.int .i64 ns.length, .slice A0 ns.length c0, .slice A1 6 c1] 33)
  have hk0 := Blk.new w 33 #[.int .i64 ns.length, .slice A0 ns.length c0, .slice A1 6 c1]
  have hb1 := below_alloc' (w.alloc (.cells #[.int .i64 ns.length, .slice A0 ns.length c0, .slice A1 6 c1] 33)) (.cells #[.int .i64 k, .slice A4 gs.length c4] 31)
  have hk1 : Blk _ (w.heap.size + 1) _ _ := Blk.new' (w.alloc (.cells #[.int .i64 ns.length, .slice A0 ns.length c0, .slice A1 6 c1] 33)) 31 #[.int .i64 k, .slice A4 gs.length c4] (by simp)
  have hb2 := below_alloc' ((w.alloc (.cells #[.int .i64 ns.length, .slice A0 ns.length c0, .slice A1 6 c1] 33)).alloc (.cells #[.int .i64 k, .slice A4 gs.length c4] 31)) (.cells #[.int .i64 0, .slice none 0 0, .slice none 0 0] 33)
  have hk2 : Blk _ (w.heap.size + 2) _ _ := Blk.new' ((w.alloc (.cells #[.int .i64 ns.length, .slice A0 ns.length c0, .slice A1 6 c1] 33)).alloc (.cells #[.int .i64 k, .slice A4 gs.length c4] 31)) 33 #[.int .i64 0, .slice none 0 0, .slice none 0 0] (by simp)
  have HB := Lib.hid (bthen (bthen hb0 hb1) hb2)
  have HK2 := Lib.hid hk2
  have HK0 := Lib.hid ((hk0.below hb1 hk0.lt).below hb2 (hk0.below hb1 hk0.lt).lt)
  have HK1 := Lib.hid (hk1.below hb2 hk1.lt)
  have HC := Lib.hid (fun W (hW : Below w.heap.size w W) => spec_l14Code_ok ns us f A0 A1 c0 c1 v W (hm.below hW) h1 (h.below hW) hok hl hmk hfk)
  have HFR := Lib.hid (fun W (hW : Below w.heap.size w W) => hfr ▸ spec_l05Is k _ gs W (hg.below hW) (by omega))
  clear hb2 hk2 hb0 hb1 hk0 hk1 hm h hmk hfk h1 hl hg hfr
  go_enter Tryz.func9, Tryz.ntmps9
  go_upto_region 1 with fail
  generalize World.alloc (World.alloc (w.alloc _) _) _ = W at *
  have k0 := HK0.out.cell
  have l0 := HK0.out.lt
  go_wp2_with fail
  refine (HC.out _ HB.out).mono ?_
  rintro e w1 ⟨s, rfl, ⟨A2, c2, A3, c3, Ab, nb, cb, Ai, ni, ci, Ao, no, co, rfl, ho, hsp⟩, hb⟩
  have hba := below_alloc' w1 (.cells #[.int .i64 ns.length, .slice A0 ns.length c0, .slice A1 6 c1, .slice A2 ns.length c2, .slice A3 (acn ns us f) c3, .slice Ab nb cb, .slice Ai ni ci, .slice Ao no co] 59)
  have HBA := Lib.hid (bthen (bthen HB.out hb) hba)
  have HK23 := Lib.hid ((HK2.out.below hb HK2.out.lt).below hba (HK2.out.below hb HK2.out.lt).lt)
  have HK3 := Lib.hid ((HK1.out.below hb HK1.out.lt).below hba (HK1.out.below hb HK1.out.lt).lt)
  clear ho hsp hb hba k0 l0
  go_upto_region 2 with fail
  generalize World.alloc w1 _ = w2 at *
  have k1 := HK3.out.cell
  have l1 := HK3.out.lt
  go_wp2_with fail
  refine (HFR.out _ HBA.out).mono ?_
  rintro e w3 ⟨rfl, hb⟩
  have HB3 := Lib.hid (bthen HBA.out hb)
  have hr1 := HK23.out.below hb HK23.out.lt
  have rc := hr1.cell
  have rf := hr1.frozen
  have rl := hr1.lt
  clear hb k1 l1 hr1
  go_wp2
  refine bodyPost_ret (v := .tuple #[.agg #[.int .i64 0, .slice none 0 0, .slice none 0 0], .int .i64 1]) (by simp [results, Tryz.results9, go_sem, rc, rf, rl]) rfl ⟨rfl, ?_⟩
  first | exact (((HB3.out).setCell (by show w.heap.size ≤ w.heap.size + 2; omega) _).setCell (by show w.heap.size ≤ w.heap.size + 2; omega) _).setCell (by show w.heap.size ≤ w.heap.size + 2; omega) _ | exact HB3.out
set_option maxRecDepth 100000 in
theorem impl_FiltrationModel_bad (n k : Int) (va vu vf vg : Value) (xs vs gs : List Int) (zs : List Nd) (w : World) (ha : Sl cI w va xs) (hu : Sl cI w vu vs) (hf : Sl cN w vf zs) (hg : Sl cI w vg gs) (hl : xs.length ≤ 1048576) (hl' : vs.length ≤ 1048576) (hl2 : zs.length ≤ 1048576) (hl3 : gs.length ≤ 1048576)
    (hc : fcode n xs vs zs = 1 ∨ (fcode n xs vs zs = 0 ∧ frOk k gs = false)) :
    Calls Tryz.prog 13 #[.agg #[.int .i64 n, va, vu], vf, .agg #[.int .i64 k, vg]] w fun e w' => e = .returned (.tuple #[.agg #[.int .i64 0, .slice none 0 0, .slice none 0 0], .int .i64 1]) ∧ Below w.heap.size w w' := by
  obtain ⟨A0, c0, rfl⟩ := ha.opn
  obtain ⟨A1, c1, rfl⟩ := hu.opn
  obtain ⟨A4, c4, rfl⟩ := hg.opn
  have hb0 := below_alloc' w (.cells #[.int .i64 n, .slice A0 xs.length c0, .slice A1 vs.length c1] 33)
  have hk0 := Blk.new w 33 #[.int .i64 n, .slice A0 xs.length c0, .slice A1 vs.length c1]
  have hb1 := below_alloc' (w.alloc (.cells #[.int .i64 n, .slice A0 xs.length c0, .slice A1 vs.length c1] 33)) (.cells #[.int .i64 k, .slice A4 gs.length c4] 31)
  have hk1 : Blk _ (w.heap.size + 1) _ _ := Blk.new' (w.alloc (.cells #[.int .i64 n, .slice A0 xs.length c0, .slice A1 vs.length c1] 33)) 31 #[.int .i64 k, .slice A4 gs.length c4] (by simp)
  have hb2 := below_alloc' ((w.alloc (.cells #[.int .i64 n, .slice A0 xs.length c0, .slice A1 vs.length c1] 33)).alloc (.cells #[.int .i64 k, .slice A4 gs.length c4] 31)) (.cells #[.int .i64 0, .slice none 0 0, .slice none 0 0] 33)
  have hk2 : Blk _ (w.heap.size + 2) _ _ := Blk.new' ((w.alloc (.cells #[.int .i64 n, .slice A0 xs.length c0, .slice A1 vs.length c1] 33)).alloc (.cells #[.int .i64 k, .slice A4 gs.length c4] 31)) 33 #[.int .i64 0, .slice none 0 0, .slice none 0 0] (by simp)
  have HB := Lib.hid (bthen (bthen hb0 hb1) hb2)
  have HK2 := Lib.hid hk2
  have HK0 := Lib.hid ((hk0.below hb1 hk0.lt).below hb2 (hk0.below hb1 hk0.lt).lt)
  have HK1 := Lib.hid (hk1.below hb2 hk1.lt)
  have HC := Lib.hid (fun W (hW : Below w.heap.size w W) => impl_modelCode n _ _ vf xs vs zs W (ha.below hW) (hu.below hW) (hf.below hW) hl hl' hl2)
  have HFR := Lib.hid (fun W (hW : Below w.heap.size w W) => impl_isFrame k _ gs W (hg.below hW) (by omega))
  have HX := Lib.hid hc
  clear hb2 hk2 hb0 hb1 hk0 hk1 ha hu hf hg hc
  go_enter Tryz.func13, Tryz.ntmps13
  go_upto_region 1 with fail
  generalize World.alloc (World.alloc (w.alloc _) _) _ = W at *
  have k0 := HK0.out.cell
  have l0 := HK0.out.lt
  go_wp2_with fail
  refine (HC.out _ HB.out).mono ?_
  rintro e w1 ⟨rfl, hb⟩
  have HB1 := Lib.hid (bthen HB.out hb)
  have HK3 := Lib.hid (HK1.out.below hb HK1.out.lt)
  have HK23 := Lib.hid (HK2.out.below hb HK2.out.lt)
  clear hb k0 l0
  have k1 := HK3.out.cell
  have l1 := HK3.out.lt
  have hx := HX.out
  rcases hx with hx | ⟨hx, hy⟩
  · rw [hx]
    clear hx k1 l1
    have rc := HK23.out.cell
    have rf := HK23.out.frozen
    have rl := HK23.out.lt
    go_wp2
    refine bodyPost_ret (v := .tuple #[.agg #[.int .i64 0, .slice none 0 0, .slice none 0 0], .int .i64 1]) (by simp [results, Tryz.results13, go_sem, rc, rf, rl]) rfl ⟨rfl, ?_⟩
    first | exact ((HB1.out.setCell (by show w.heap.size ≤ w.heap.size + 2; omega) _).setCell (by show w.heap.size ≤ w.heap.size + 2; omega) _).setCell (by show w.heap.size ≤ w.heap.size + 2; omega) _ | exact HB1.out
  · rw [hx]
    have HY := Lib.hid hy
    clear hx hy
    go_wp2_with fail
    refine (HFR.out _ HB1.out).mono ?_
    rintro e w2 ⟨rfl, hb⟩
    rw [HY.out]
    have HB2 := Lib.hid (bthen HB1.out hb)
    have hr1 := HK23.out.below hb HK23.out.lt
    have rc := hr1.cell
    have rf := hr1.frozen
    have rl := hr1.lt
    clear hb k1 hr1
    go_wp2
    refine bodyPost_ret (v := .tuple #[.agg #[.int .i64 0, .slice none 0 0, .slice none 0 0], .int .i64 1]) (by simp [results, Tryz.results13, go_sem, rc, rf, rl]) rfl ⟨rfl, ?_⟩
    first | exact ((HB2.out.setCell (by show w.heap.size ≤ w.heap.size + 2; omega) _).setCell (by show w.heap.size ≤ w.heap.size + 2; omega) _).setCell (by show w.heap.size ≤ w.heap.size + 2; omega) _ | exact HB2.out
end Go.Proofs.YtgdmfihnbbgcoaaGreatDoor

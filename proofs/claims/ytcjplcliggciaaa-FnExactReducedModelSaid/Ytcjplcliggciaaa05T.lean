/- Contracts of ReducedModel, of the program. -/
import Derived.Test.Ytcjplcliggciaaa05S
import Derived.Deep.RegionHeld3
namespace Go.Proofs.Ytcjplcliggciaaa
open Go.RowKit
set_option linter.unusedVariables false
set_option linter.unusedSimpArgs false
/-- what stands while a drawn region makes a result: the result's box, two lists, some cells that are read -/
structure TT (w : World) (m : Nat) (ps : List (Addr × Value)) (c : Array Value) (u1 u2 : Value) (rs vs : List Int) (H : Nat) (X : World) : Prop where
  blk : Blk X (w.heap.size + 1) 62 c
  o1 : Ow cI 2 (w.heap.size + 2) X u1 rs
  o2 : Ow cI 2 H X u2 vs
  sz : m ≤ X.heap.size
  be : Below w.heap.size w X
  cells : ∀ p ∈ ps, X.cell? p.1 = some p.2
  lt : ∀ p ∈ ps, p.1.block < m
  ne : ∀ p ∈ ps, w.heap.size + 1 ≠ p.1.block
  hH : w.heap.size + 1 < H
theorem TT.below {w : World} {m : Nat} {ps : List (Addr × Value)} {c : Array Value} {u1 u2 : Value} {rs vs : List Int} {H : Nat} {X Y : World} (h : TT w m ps c u1 u2 rs vs H X) (hb : Below X.heap.size X Y) : TT w m ps c u1 u2 rs vs H Y :=
  ⟨h.blk.below hb h.blk.lt, h.o1.below hb, h.o2.below hb, Nat.le_trans h.sz hb.size, bthen h.be hb, fun p hp => (hb.cell (p := p.1) (Nat.lt_of_lt_of_le (h.lt p hp) h.sz)).trans (h.cells p hp), h.lt, h.ne, h.hH⟩
theorem TT.drew {w : World} {m : Nat} {ps : List (Addr × Value)} {c : Array Value} {u1 u2 : Value} {rs vs : List Int} {H : Nat} {X : World} (h : TT w m ps c u1 u2 rs vs H X) : TT w m ps c u1 u2 rs vs H X.drew := h.below (Below.refl _ _).drew
theorem TT.set {w : World} {m : Nat} {ps : List (Addr × Value)} {c : Array Value} {u1 u2 : Value} {rs vs : List Int} {H : Nat} {X : World} (h : TT w m ps c u1 u2 rs vs H X) (i : Nat) (u : Value) : TT w m ps (c.setIfInBounds i u) u1 u2 rs vs H (X.setCell ⟨w.heap.size + 1, i, none⟩ u) :=
  ⟨h.blk.set_ i u, h.o1.setBelow (Nat.lt_succ_self _) u, h.o2.setBelow h.hH u, by simp only [World.setCell, Array.size_modify]; exact h.sz, h.be.setCell (Nat.le_succ _) u, fun p hp => by rw [World.cell?_setCell_far _ _ _ _ (h.ne p hp)]; exact h.cells p hp, h.lt, h.ne, h.hH⟩
theorem TT.store {w : World} {m : Nat} {ps : List (Addr × Value)} {x y z : Value} {u1 u2 : Value} {rs vs : List Int} {H : Nat} {X : World} (h : TT w m ps #[x, y, z] u1 u2 rs vs H X) (a b d : Value) : TT w m ps #[a, b, d] u1 u2 rs vs H (((X.setCell ⟨w.heap.size + 1, 0, none⟩ a).setCell ⟨w.heap.size + 1, 1, none⟩ b).setCell ⟨w.heap.size + 1, 2, none⟩ d) :=
  ((h.set 0 a).set 1 b).set 2 d
theorem TT.four {w : World} {m : Nat} {p0 p1 p2 p3 : Addr} {x0 x1 x2 x3 : Value} {c : Array Value} {u1 u2 : Value} {rs vs : List Int} {H : Nat} {X : World} (h : TT w m [(p0, x0), (p1, x1), (p2, x2), (p3, x3)] c u1 u2 rs vs H X) : X.cell? p0 = some x0 ∧ X.cell? p1 = some x1 ∧ X.cell? p2 = some x2 ∧ X.cell? p3 = some x3 :=
  ⟨h.cells (p0, x0) (by simp), h.cells (p1, x1) (by simp), h.cells (p2, x2) (by simp), h.cells (p3, x3) (by simp)⟩
theorem TT.sz2 {w : World} {m n : Nat} {ps : List (Addr × Value)} {c : Array Value} {u1 u2 : Value} {rs vs : List Int} {H : Nat} {X : World} (h : TT w m ps c u1 u2 rs vs H X) (hn : w.heap.size + 1 < n) (hm : n + 1 = m) : w.heap.size + 2 ≤ X.heap.size := by
  have := h.sz; omega
set_option maxHeartbeats 2000000 in
set_option maxRecDepth 100000 in
theorem impl_ReducedModel_ok (ns us : List Nat) (x k : Nat) (A0 A1 : Option Addr) (c0 c1 : Nat) (w : World) (hm : Mdl w (.slice A0 ns.length c0) (.slice A1 6 c1) ns us) (h1 : MdN ns us) (hok : mdOk ns.length (li ns) (li us) = true) (hx : x < ns.length)
    (hk : k < (mems (rch ns x)).length) (hk1 : (mems (rch ns x))[k]? = some (x : Int)) (hk2 : ∀ j, j < k → ¬ (mems (rch ns x))[j]? = some (x : Int)) :
    Calls Try.prog 37 #[.agg #[.int .i64 ns.length, .slice A0 ns.length c0, .slice A1 6 c1], .int .i64 x] w
      fun e w' => ∃ u1 u2, e = .returned (.tuple #[.agg #[.int .i64 (qn (ptr ns (rch ns x)) (ptv us (rch ns x)) : Nat), u1, u2], .int .i64 ((qcl (ptr ns (rch ns x)) (ptv us (rch ns x))).getD k 0 : Nat), .int .i64 0]) ∧
        MdR w w' u1 u2 (li (qrl (qcl (ptr ns (rch ns x)) (ptv us (rch ns x))) (ptr ns (rch ns x)) (qn (ptr ns (rch ns x)) (ptv us (rch ns x))) (ptr ns (rch ns x)).length)) (li (qvl (qcl (ptr ns (rch ns x)) (ptv us (rch ns x))) (ptv us (rch ns x)))) ∧ Below w.heap.size w w' := by
  have hb0 := below_alloc' w (.cells #[.int .i64 ns.length, .slice A0 ns.length c0, .slice A1 6 c1] 62)
  have hk0 := Blk.new w 62 #[.int .i64 ns.length, .slice A0 ns.length c0, .slice A1 6 c1]
  have hb1 := below_alloc' (w.alloc (.cells #[.int .i64 ns.length, .slice A0 ns.length c0, .slice A1 6 c1] 62)) (.cells #[.int .i64 0, .slice none 0 0, .slice none 0 0] 62)
  have hk3 : Blk _ (w.heap.size + 1) _ _ := Blk.new' (w.alloc (.cells #[.int .i64 ns.length, .slice A0 ns.length c0, .slice A1 6 c1] 62)) 62 #[.int .i64 0, .slice none 0 0, .slice none 0 0] (by simp)
  have HB := Lib.hid (bthen hb0 hb1)
  have HK0 := Lib.hid (hk0.below hb1 hk0.lt)
  have HK1 := Lib.hid hk3
  have E1 := Lib.hid (li_length ns)
  have E2 := Lib.hid (show (li us).length = 6 by rw [li_length, h1.l])
  have h8 := h1.r.1
  have hR : rch ns x < 2 ^ ns.length := rch_lt ns h1.r.2 hx
  have hR256 := Nat.lt_of_lt_of_le hR (two_pow_256 h8)
  have HI := Lib.hid (fun W (hW : Below w.heap.size w W) => hok ▸ impl_isModel ns.length _ _ (li ns) (li us) W (hm.a.below hW) (hm.u.below hW) (by rw [E1.out]; omega) (by rw [E2.out]; omega))
  have EW : Hid (inR (x : Int) 0 ((ns.length : Int) - 1) = true) := Lib.hid (inR_true (by omega) (by omega))
  have HW := Lib.hid (fun W => impl_hasWorld (ns.length : Int) (x : Int) (.slice A0 ns.length c0) A0 ns.length c0 rfl W ⟨by omega, by omega⟩)
  have HRe := Lib.hid (fun W (hW : Below w.heap.size w W) => impl_reachable _ ns W (hm.a.below hW) h1.r)
  have LR := Lib.hid (show (li (rft (clo ns ns.length) ns.length)).length = ns.length by rw [li_length, rft_length, clo_length])
  have ER := Lib.hid (rft_rch ns x hx)
  have HPa := Lib.hid (fun W (hW : Below w.heap.size w W) => impl_partOfModel ns us (rch ns x) A0 A1 c0 c1 W (hm.below hW) h1 hR)
  have hpt := pt_md ns us (rch ns x) h1 hR
  rw [← ptr_length ns (rch ns x)] at HPa hk
  have hp8 : (ptr ns (rch ns x)).length ≤ 8 := hpt.r.1
  have HMe := Lib.hid (fun W => impl_membersOf (rch ns x) W (by omega))
  have HML := Lib.hid (show (mems (rch ns x)).length = (ptr ns (rch ns x)).length from (ptr_length _ _).symm)
  have HIx := Lib.hid (fun v W (hW : Sl cI W v (mems (rch ns x))) => slices_Index_int64 v (mems (rch ns x)) x k W hW (by rw [HML.out]; omega) (by rw [HML.out]; exact hk) hk1 hk2)
  clear hk1 hk2 hb0 hb1 hk0 hk3 hm h1 hok hR hR256
  generalize ptr ns (rch ns x) = PT at *
  generalize ptv us (rch ns x) = PV at *
  generalize mems (rch ns x) = ms at *
  have HQ := Lib.hid (fun A B c d W (hW : Mdl W (.slice A PT.length c) (.slice B 6 d) PT PV) => impl_quotientModel PT PV A B c d W hW hpt)
  have LC := Lib.hid (show (li (qcl PT PV)).length = PT.length by rw [li_length, qcl_length])
  clear hpt
  generalize qn PT PV = n at *
  generalize qcl PT PV = cl at *
  generalize li (qrl cl PT n PT.length) = rs at *
  generalize li (qvl cl PV) = vs at *
  go_enter Try.func37, Try.ntmps37
  go_upto_region 1 with fail
  generalize World.alloc (w.alloc _) _ = W at *
  have k0 := HK0.out.cell
  have l0 := HK0.out.lt
  go_wp2_with fail
  refine (HI.out _ HB.out).mono ?_
  rintro e w1 ⟨rfl, hb⟩
  have HB1 := Lib.hid (bthen HB.out hb)
  have HKa := Lib.hid (HK0.out.below hb l0)
  have HKb := Lib.hid (HK1.out.below hb HK1.out.lt)
  clear k0 l0 hb HK0 HK1 HB HI
  have k0 := HKa.out.cell
  have l0 := HKa.out.lt
  go_wp2_with fail
  refine (HW.out _).mono ?_
  rintro e w2 ⟨rfl, hb⟩
  rw [EW.out]
  have HB2 := Lib.hid (bthen HB1.out hb)
  have HKc := Lib.hid (HKa.out.below hb l0)
  have HKd := Lib.hid (HKb.out.below hb HKb.out.lt)
  clear k0 l0 hb HKa HKb HB1 HW
  have k0 := HKc.out.cell
  have l0 := HKc.out.lt
  go_wp2_with fail
  refine (HRe.out _ HB2.out).mono ?_
  rintro e w3 ⟨u, rfl, ho, hb⟩
  obtain ⟨Au, cu, rfl⟩ := ho.opn
  have HB3 := Lib.hid (bthen HB2.out hb)
  have HKe := Lib.hid (HKc.out.below hb l0)
  have HKf := Lib.hid (HKd.out.below hb HKd.out.lt)
  clear k0 l0 hb HKc HKd HB2 HRe
  obtain ⟨b, o, rfl, hbl, hc0⟩ := ho.sl.atI (k := x) (by rw [LR.out]; exact hx)
  rw [li_get, ER.out] at hc0
  rw [LR.out]
  clear ho
  have hxi : (x : Int) < (ns.length : Int) := by omega
  have k0 := HKe.out.cell
  have l0 := HKe.out.lt
  go_wp2_with fail
  refine (HPa.out _ HB3.out).mono ?_
  rintro e w4 ⟨B1, d1, B2, d2, H, rfl, hH1, hH2, ho1, ho2, hb⟩
  have HB4 := Lib.hid (bthen HB3.out hb)
  have HKg := Lib.hid (HKf.out.below hb HKf.out.lt)
  have HMd : Hid (Mdl w4 (.slice B1 PT.length d1) (.slice B2 6 d2) PT PV) := Lib.hid ⟨ho1.1.sl, ho2.1.sl⟩
  clear k0 l0 hb hc0 hbl ho1 ho2 hH1 hH2 HKe HKf HB3
  go_wp2_with fail
  refine (HQ.out _ _ _ _ _ HMd.out).mono ?_
  rintro e w5 ⟨B1', d1', B2', d2', B3, d3, H5, rfl, hH1, hH2, ho1, ho2, ho3, hb⟩
  have HB5 := Lib.hid (bthen HB4.out hb)
  have HKh := Lib.hid (HKg.out.below hb HKg.out.lt)
  have hw1 : w.heap.size + 1 < w4.heap.size := HKg.out.lt
  have Z1 := Lib.hid (ho1.1.mono hw1)
  have Z1b := Lib.hid ho1.2
  have Z2 := Lib.hid ho2
  have HCl := Lib.hid (show Ow cI 2 (w.heap.size + 2) w5 _ _ from ho3.mono hw1)
  clear hb HKg HB4 HMd ho1 ho2 ho3
  go_upto_region 7 with fail
  have HV := Lib.hid (below_alloc' w5 (.cells #[.int .i64 n, .slice B1' n d1', .slice B2' 6 d2'] 62))
  have HVs : Hid ((w5.alloc (.cells #[.int .i64 n, .slice B1' n d1', .slice B2' 6 d2'] 62)).heap.size = w5.heap.size + 1) := Lib.hid (by simp)
  have HP : Hid (Blk (w5.alloc (.cells #[.int .i64 n, .slice B1' n d1', .slice B2' 6 d2'] 62)) w5.heap.size 62 #[.int .i64 n, .slice B1' n d1', .slice B2' 6 d2']) := Lib.hid (Blk.new _ _ _)
  generalize World.alloc w5 _ = V at *
  have d0 := HP.out.cell 0
  have d1 := HP.out.cell 1
  have d2 := HP.out.cell 2
  have lP := HP.out.lt
  have hcl := HCl.out.below HV.out
  obtain ⟨b, c9, hv, hbB, hbl, -, -⟩ := hcl.form (by rw [LC.out]; omega)
  injection hv with hA hn hc
  subst hA hc
  obtain ⟨hc0, -, -, -⟩ := hcl.at1 (j := k) rfl (by rw [LC.out]; exact hk) rfl
  rw [li_get] at hc0
  clear hcl hn
  have hki : (k : Int) < (PT.length : Int) := by omega
  have hw9 : w.heap.size + 1 < H5 := by omega
  have hg5 : w.heap.size + 1 < w5.heap.size := HKh.out.lt
  have lV : w5.heap.size + 1 = V.heap.size := HVs.out.symm
  have T0 : Hid (TT w V.heap.size [(⟨w5.heap.size, 0, none⟩, .int .i64 n), (⟨w5.heap.size, 1, none⟩, .slice B1' n d1'), (⟨w5.heap.size, 2, none⟩, .slice B2' 6 d2'), (⟨b, k, none⟩, .int .i64 (cl.getD k 0 : Nat))] #[.int .i64 0, .slice none 0 0, .slice none 0 0] (.slice B1' n d1') (.slice B2' 6 d2') rs vs H5 V.drew) := Lib.hid
    (TT.drew ⟨HKh.out.below HV.out HKh.out.lt, Z1.out.below HV.out, Z2.out.1.below HV.out, Nat.le_refl _, bthen HB5.out HV.out, by simp [d0, d1, d2, hc0], by simp; omega, by simp; omega, hw9⟩)
  have T1 := Lib.hid (T0.out.store (.int .i64 n) (.slice B1' n d1') (.slice B2' 6 d2'))
  clear d0 d1 d2 hc0 HV HP Z1
  go_cut [5, 6] (fun p q X => p = .int .i64 (cl.getD k 0 : Nat) ∧ q = .int .i64 0 ∧ TT w V.heap.size [(⟨w5.heap.size, 0, none⟩, .int .i64 n), (⟨w5.heap.size, 1, none⟩, .slice B1' n d1'), (⟨w5.heap.size, 2, none⟩, .slice B2' 6 d2'), (⟨b, k, none⟩, .int .i64 (cl.getD k 0 : Nat))] #[.int .i64 n, .slice B1' n d1', .slice B2' 6 d2'] (.slice B1' n d1') (.slice B2' 6 d2') rs vs H5 X)
  case first =>
    obtain ⟨i1, i2, i3⟩ := And.intro T0.out.blk.cell (And.intro T0.out.blk.frozen T0.out.blk.lt)
    go_region_held3 (fun X => X.cell? ⟨w5.heap.size, 0, none⟩ = some (.int .i64 n) ∧ X.cell? ⟨w5.heap.size, 1, none⟩ = some (.slice B1' n d1') ∧ X.cell? ⟨w5.heap.size, 2, none⟩ = some (.slice B2' 6 d2') ∧ X.cell? ⟨b, k, none⟩ = some (.int .i64 (cl.getD k 0 : Nat))) (first | exact T0.out.four | exact T1.out.four | exact T6.out.four | exact T7.out.four) (first | (go_at_call 94; refine (HMe.out _).mono ?_; rintro e w6 ⟨vm, rfl, hv, hb⟩; first | (have T6 := Lib.hid (T0.out.below hb); have T7 := Lib.hid (T6.out.store (.int .i64 n) (.slice B1' n d1') (.slice B2' 6 d2')); obtain ⟨k1, k2, k3⟩ := And.intro T6.out.blk.cell (And.intro T6.out.blk.frozen T6.out.blk.lt); have HVm := Lib.hid (hv.mono (T0.out.sz2 hg5 lV))) | (have T6 := Lib.hid (T1.out.below hb); have T7 := Lib.hid (T6.out); have HVm := Lib.hid (hv.mono (T1.out.sz2 hg5 lV)))) | (go_at_call 93; refine (HIx.out _ _ (by first | exact HVm.out.sl | exact (((HVm.out.setBelow (Nat.lt_succ_self _) _).setBelow (Nat.lt_succ_self _) _).setBelow (Nat.lt_succ_self _) _).sl)).mono ?_; rintro e w7 ⟨rfl, rfl⟩))
    all_goals
      go_wp2_with fail
      go_meet
      first
        | exact ⟨rfl, rfl, T6.out⟩
        | exact ⟨rfl, rfl, T7.out⟩
        | exact ⟨rfl, rfl, T1.out⟩
  case rest =>
    obtain ⟨rfl, rfl, T⟩ := hcut
    have rc := T.blk.cell
    have rf := T.blk.frozen
    have rl := T.blk.lt
    have Y1 := Lib.hid T.o1
    have Y2 := Lib.hid T.o2
    have Y3 := Lib.hid T.be
    have Y4 := Lib.hid T.sz
    clear T T0 T1
    go_wp2
    refine bodyPost_ret (v := .tuple #[.agg #[.int .i64 n, .slice B1' n d1', .slice B2' 6 d2'], .int .i64 (cl.getD k 0 : Nat), .int .i64 0]) (by simp [results, Try.results37, go_sem, rc, rf, rl]) rfl ⟨_, _, rfl, ⟨H5, by omega, by have := Y4.out; omega, ⟨Y1.out.mono (by omega), Z1b.out⟩, ⟨Y2.out, fun g hg => ?_⟩⟩, Y3.out⟩
    have := Z2.out.2 g hg
    have := Y4.out
    omega
theorem impl_ReducedModel_bad (n : Int) (x : Int) (va vu : Value) (xs vs : List Int) (w : World) (ha : Sl cI w va xs) (hu : Sl cI w vu vs) (hl : xs.length ≤ 1048576) (hl' : vs.length ≤ 1048576) (hc : mdOk n xs vs = false) :
    Calls Try.prog 37 #[.agg #[.int .i64 n, va, vu], .int .i64 x] w fun e w' => e = .returned (.tuple #[.agg #[.int .i64 0, .slice none 0 0, .slice none 0 0], .int .i64 0, .int .i64 1]) ∧ Below w.heap.size w w' := by
  obtain ⟨A0, c0, rfl⟩ := ha.opn
  obtain ⟨A1, c1, rfl⟩ := hu.opn
  have hb0 := below_alloc' w (.cells #[.int .i64 n, .slice A0 xs.length c0, .slice A1 vs.length c1] 62)
  have hk0 := Blk.new w 62 #[.int .i64 n, .slice A0 xs.length c0, .slice A1 vs.length c1]
  have hb1 := below_alloc' (w.alloc (.cells #[.int .i64 n, .slice A0 xs.length c0, .slice A1 vs.length c1] 62)) (.cells #[.int .i64 0, .slice none 0 0, .slice none 0 0] 62)
  have hk1 : Blk _ (w.heap.size + 1) _ _ := Blk.new' (w.alloc (.cells #[.int .i64 n, .slice A0 xs.length c0, .slice A1 vs.length c1] 62)) 62 #[.int .i64 0, .slice none 0 0, .slice none 0 0] (by simp)
  have HB := Lib.hid (bthen hb0 hb1)
  have HK0 := Lib.hid (hk0.below hb1 hk0.lt)
  have HK1 := Lib.hid hk1
  have HI := Lib.hid (fun W (hW : Below w.heap.size w W) => hc ▸ impl_isModel n _ _ xs vs W (ha.below hW) (hu.below hW) (by omega) (by omega))
  clear ha hu hb0 hb1 hk0 hk1 hc
  go_enter Try.func37, Try.ntmps37
  go_upto_region 1 with fail
  generalize World.alloc (w.alloc _) _ = W at *
  have k0 := HK0.out.cell
  have l0 := HK0.out.lt
  go_wp2_with fail
  refine (HI.out _ HB.out).mono ?_
  rintro e w1 ⟨rfl, hb⟩
  have HB1 := Lib.hid (bthen HB.out hb)
  have hr1 := HK1.out.below hb HK1.out.lt
  have rc := hr1.cell
  have rf := hr1.frozen
  have rl := hr1.lt
  clear k0 hb hr1
  go_wp2
  refine bodyPost_ret (v := .tuple #[.agg #[.int .i64 0, .slice none 0 0, .slice none 0 0], .int .i64 0, .int .i64 1]) (by simp [results, Try.results37, go_sem, rc, rf, rl]) rfl ⟨rfl, ?_⟩
  first | exact ((HB1.out.setCell (Nat.le_succ _) _).setCell (Nat.le_succ _) _).setCell (Nat.le_succ _) _ | exact HB1.out
theorem impl_ReducedModel_out (n : Int) (x : Int) (va vu : Value) (xs vs : List Int) (w : World) (ha : Sl cI w va xs) (hu : Sl cI w vu vs) (hl : xs.length ≤ 1048576) (hl' : vs.length ≤ 1048576) (hc : mdOk n xs vs = true) (hn : 0 ≤ n ∧ n ≤ 8) (hx : inR x 0 (n - 1) = false) :
    Calls Try.prog 37 #[.agg #[.int .i64 n, va, vu], .int .i64 x] w fun e w' => e = .returned (.tuple #[.agg #[.int .i64 0, .slice none 0 0, .slice none 0 0], .int .i64 0, .int .i64 2]) ∧ Below w.heap.size w w' := by
  obtain ⟨A0, c0, rfl⟩ := ha.opn
  obtain ⟨A1, c1, rfl⟩ := hu.opn
  have hb0 := below_alloc' w (.cells #[.int .i64 n, .slice A0 xs.length c0, .slice A1 vs.length c1] 62)
  have hk0 := Blk.new w 62 #[.int .i64 n, .slice A0 xs.length c0, .slice A1 vs.length c1]
  have hb1 := below_alloc' (w.alloc (.cells #[.int .i64 n, .slice A0 xs.length c0, .slice A1 vs.length c1] 62)) (.cells #[.int .i64 0, .slice none 0 0, .slice none 0 0] 62)
  have hk1 : Blk _ (w.heap.size + 1) _ _ := Blk.new' (w.alloc (.cells #[.int .i64 n, .slice A0 xs.length c0, .slice A1 vs.length c1] 62)) 62 #[.int .i64 0, .slice none 0 0, .slice none 0 0] (by simp)
  have HB := Lib.hid (bthen hb0 hb1)
  have HK0 := Lib.hid (hk0.below hb1 hk0.lt)
  have HK1 := Lib.hid hk1
  have HI := Lib.hid (fun W (hW : Below w.heap.size w W) => hc ▸ impl_isModel n _ _ xs vs W (ha.below hW) (hu.below hW) (by omega) (by omega))
  have EW := Lib.hid hx
  have HW := Lib.hid (fun W => impl_hasWorld n x (.slice A0 xs.length c0) A0 xs.length c0 rfl W hn)
  clear ha hu hb0 hb1 hk0 hk1 hc hx
  go_enter Try.func37, Try.ntmps37
  go_upto_region 1 with fail
  generalize World.alloc (w.alloc _) _ = W at *
  have k0 := HK0.out.cell
  have l0 := HK0.out.lt
  go_wp2_with fail
  refine (HI.out _ HB.out).mono ?_
  rintro e w1 ⟨rfl, hb⟩
  have HB1 := Lib.hid (bthen HB.out hb)
  have HKa := Lib.hid (HK0.out.below hb l0)
  have HKb := Lib.hid (HK1.out.below hb HK1.out.lt)
  clear k0 l0 hb HK0 HK1 HB HI
  have k0 := HKa.out.cell
  have l0 := HKa.out.lt
  go_wp2_with fail
  refine (HW.out _).mono ?_
  rintro e w2 ⟨rfl, hb⟩
  rw [EW.out]
  have HB2 := Lib.hid (bthen HB1.out hb)
  have hr1 := HKb.out.below hb HKb.out.lt
  have rc := hr1.cell
  have rf := hr1.frozen
  have rl := hr1.lt
  clear k0 hb hr1
  go_wp2
  refine bodyPost_ret (v := .tuple #[.agg #[.int .i64 0, .slice none 0 0, .slice none 0 0], .int .i64 0, .int .i64 2]) (by simp [results, Try.results37, go_sem, rc, rf, rl]) rfl ⟨rfl, ?_⟩
  first | exact ((HB2.out.setCell (Nat.le_succ _) _).setCell (Nat.le_succ _) _).setCell (Nat.le_succ _) _ | exact HB2.out
end Go.Proofs.Ytcjplcliggciaaa

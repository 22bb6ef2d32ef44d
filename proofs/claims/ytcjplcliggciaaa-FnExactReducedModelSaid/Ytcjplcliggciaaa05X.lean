/- Contracts of ReducedModel, of the reference. -/
import Derived.Test.Ytcjplcliggciaaa05W
namespace Go.Proofs.Ytcjplcliggciaaa
open Go.RowKit
set_option linter.unusedVariables false
set_option linter.unusedSimpArgs false
theorem cells4 {X : World} {p0 p1 p2 p3 : Addr} {x0 x1 x2 x3 : Value} (h0 : X.cell? p0 = some x0) (h1 : X.cell? p1 = some x1) (h2 : X.cell? p2 = some x2) (h3 : X.cell? p3 = some x3) : ∀ p ∈ [(p0, x0), (p1, x1), (p2, x2), (p3, x3)], X.cell? p.1 = some p.2 := by simp [h0, h1, h2, h3]
set_option maxHeartbeats 2000000 in
set_option maxRecDepth 100000 in
theorem spec_ReducedModel_ok (ns us : List Nat) (x k : Nat) (A0 A1 : Option Addr) (c0 c1 : Nat) (w : World) (hm : Mdl w (.slice A0 ns.length c0) (.slice A1 6 c1) ns us) (h1 : MdN ns us) (hok : mdOk ns.length (li ns) (li us) = true) (hx : x < ns.length)
    (hk : k < (mems (rch ns x)).length) (hk1 : (mems (rch ns x))[k]? = some (x : Int)) (hk2 : ∀ j, j < k → ¬ (mems (rch ns x))[j]? = some (x : Int)) :
    Calls Try.prog 35 #[.agg #[.int .i64 ns.length, .slice A0 ns.length c0, .slice A1 6 c1], .int .i64 x] w
      fun e w' => ∃ u1 u2, e = .returned (.tuple #[.agg #[.int .i64 (qn (ptr ns (rch ns x)) (ptv us (rch ns x)) : Nat), u1, u2], .int .i64 ((qcl (ptr ns (rch ns x)) (ptv us (rch ns x))).getD k 0 : Nat), .int .i64 0]) ∧
        Ow cI 2 w.heap.size w' u1 (li (qrl (qcl (ptr ns (rch ns x)) (ptv us (rch ns x))) (ptr ns (rch ns x)) (qn (ptr ns (rch ns x)) (ptv us (rch ns x))) (ptr ns (rch ns x)).length)) ∧ Ow cI 2 w.heap.size w' u2 (li (qvl (qcl (ptr ns (rch ns x)) (ptv us (rch ns x))) (ptv us (rch ns x)))) ∧ Below w.heap.size w w' := by
  have hb0 := below_alloc' w (.cells #[.int .i64 ns.length, .slice A0 ns.length c0, .slice A1 6 c1] 62)
  have hk0 := Blk.new w 62 #[.int .i64 ns.length, .slice A0 ns.length c0, .slice A1 6 c1]
  have hb1 := below_alloc' (w.alloc (.cells #[.int .i64 ns.length, .slice A0 ns.length c0, .slice A1 6 c1] 62)) (.cells #[.int .i64 0, .slice none 0 0, .slice none 0 0] 62)
  have hk3 : Blk _ (w.heap.size + 1) _ _ := Blk.new' (w.alloc (.cells #[.int .i64 ns.length, .slice A0 ns.length c0, .slice A1 6 c1] 62)) 62 #[.int .i64 0, .slice none 0 0, .slice none 0 0] (by simp)
  have HB := Lib.hid (bthen hb0 hb1)
  have HK0 := Lib.hid (hk0.below hb1 hk0.lt)
  have HK1 := Lib.hid hk3
  have E1 := Lib.hid (li_length ns)
  have E2 := Lib.hid (show (li us).length = 6 by rw [li_length, h1.l])
  have h8 := h1.r.1
  have hR : rch ns x < 2 ^ ns.length := rch_lt ns h1.r.2 hx
  have hR256 := Nat.lt_of_lt_of_le hR (two_pow_256 h8)
  have HI := Lib.hid (fun W (hW : Below w.heap.size w W) => hok ▸ spec_l06Is ns.length _ _ (li ns) (li us) W (hm.a.below hW) (hm.u.below hW) (by rw [E1.out]; omega) (by rw [E2.out]; omega))
  have EW : Hid (inR (x : Int) 0 ((ns.length : Int) - 1) = true) := Lib.hid (inR_true (by omega) (by omega))
  have HW := Lib.hid (fun W => spec_l05World (ns.length : Int) (x : Int) (.slice A0 ns.length c0) A0 ns.length c0 rfl W ⟨by omega, by omega⟩)
  have HRe := Lib.hid (fun W (hW : Below w.heap.size w W) => spec_l05Reach _ ns x W (hm.a.below hW) h1.r hx)
  have HOn := Lib.hid (fun W => spec_l01One (x : Int) W (by omega) (by omega))
  have EO : Hid ((2 : Int) ^ x = ((2 ^ x : Nat) : Int)) := Lib.hid (by rw [cast_two_pow])
  have HPa := Lib.hid (fun W (hW : Below w.heap.size w W) => spec_PartOfModel_ok ns us (rch ns x) 0 A0 A1 c0 c1 W (hm.below hW) h1 hok hR)
  have hpt := pt_md ns us (rch ns x) h1 hR
  rw [← ptr_length ns (rch ns x)] at hk
  have hp8 : (ptr ns (rch ns x)).length ≤ 8 := hpt.r.1
  have HMe := Lib.hid (fun W => spec_l01List (rch ns x) W (by omega))
  have HML := Lib.hid (show (mems (rch ns x)).length = (ptr ns (rch ns x)).length from (ptr_length _ _).symm)
  have HIx := Lib.hid (fun v W (hW : Sl cI W v (mems (rch ns x))) => spec_l01Index v (mems (rch ns x)) x k W hW (by rw [HML.out]; omega) (by rw [HML.out]; exact hk) hk1 hk2)
  clear hk1 hk2 hb0 hb1 hk0 hk3 hm h1 hok hR hR256
  generalize ptr ns (rch ns x) = PT at *
  generalize ptv us (rch ns x) = PV at *
  generalize mems (rch ns x) = ms at *
  have HC : Hid (∀ A B c d W, Mdl W (.slice A PT.length c) (.slice B 6 d) PT PV → Calls Try.prog 83 #[.agg #[.int .i64 PT.length, .slice A PT.length c, .slice B 6 d]] W fun e w' => ∃ A c, e = .returned (.slice A PT.length c) ∧ Ow cI 2 W.heap.size w' (.slice A PT.length c) (li (qcl PT PV)) ∧ Below W.heap.size W w') := Lib.hid (fun A B c d W hW => spec_l07Classes PT PV A B c d W hW hpt)
  have HQ := Lib.hid (fun A B A2 c d c2 W (hW : Mdl W (.slice A PT.length c) (.slice B 6 d) PT PV) (hc : Sl cI W (.slice A2 PT.length c2) (li (qcl PT PV))) => spec_l07Quotient PT PV (qcl PT PV) (qn PT PV) rfl A B A2 c d c2 W hW hpt hc (qcl_length PT PV) (qcl_lt PT PV hp8))
  have LC := Lib.hid (show (li (qcl PT PV)).length = PT.length by rw [li_length, qcl_length])
  clear hpt
  generalize qn PT PV = n at *
  generalize qcl PT PV = cl at *
  generalize li (qrl cl PT n PT.length) = rs at *
  generalize li (qvl cl PV) = vs at *
  go_enter Try.func35, Try.ntmps35
  go_upto_region 1 with fail
  generalize World.alloc (w.alloc _) _ = W at *
  have k0 := HK0.out.cell
  have l0 := HK0.out.lt
  go_wp2_with fail
  refine (HI.out _ HB.out).mono ?_
  rintro e w1 ⟨rfl, hb⟩
  have HB1 := Lib.hid (bthen HB.out hb)
  have HKa := Lib.hid (HK0.out.below hb l0)
  have HKb := Lib.hid (HK1.out.below hb HK1.out.lt)
  clear k0 l0 hb HK0 HK1 HB HI
  have k0 := HKa.out.cell
  have l0 := HKa.out.lt
  go_wp2_with fail
  refine (HW.out _).mono ?_
  rintro e w2 ⟨rfl, hb⟩
  rw [EW.out]
  have HB2 := Lib.hid (bthen HB1.out hb)
  have HKc := Lib.hid (HKa.out.below hb l0)
  have HKd := Lib.hid (HKb.out.below hb HKb.out.lt)
  clear k0 l0 hb HKa HKb HB1 HW
  have k0 := HKc.out.cell 0
  have k1 := HKc.out.cell 1
  simp only [List.getElem?_toArray, List.getElem?_cons_zero, List.getElem?_cons_succ] at k0 k1
  have l0 := HKc.out.lt
  go_upto_region 5 with fail
  refine wp_region_sched (Below w2.heap.size w2) 5 [0, 1, 2] [0, 1, 2, 3, 4] (by kernel_rfl) (by kernel_rfl) (Below.refl _ _).drew ?_
  repeat
    apply wpSched_q rfl rfl
    case h =>
      intro w' hI K hK
      have k0' := (hI.cell (p := ⟨w.heap.size, 0, none⟩) l0).trans k0
      have k1' := (hI.cell (p := ⟨w.heap.size, 1, none⟩) l0).trans k1
      simp only [quietV, stillV]
      go_simp
      exact hK
    go_simp
  refine wpSched_r rfl rfl ?_ (Below.refl _ _).drew
  intro K hK _
  go_simp
  refine (HOn.out _).mono ?_
  rintro e w6 ⟨rfl, rfl⟩
  refine hK _ _ (Below.refl _ _).drew ?_
  clear hK K
  refine wpSched_r rfl rfl ?_ (Below.refl _ _).drew
  intro K hK _
  go_simp
  rw [EO.out]
  refine (HRe.out _ (bthen HB2.out (Below.refl _ _).drew)).mono ?_
  rintro e w3 ⟨rfl, hb⟩
  have hb3 : Below w2.heap.size w2 w3 := (Below.refl _ _).drew.trans (hb.mono (Below.refl w2.heap.size w2).drew.size)
  refine hK _ _ hb3 ?_
  clear hK K hb
  refine wpSched_nil ?_
  try simp only [List.drop_succ_cons, List.drop_zero]
  have HB3 := Lib.hid (bthen HB2.out hb3)
  have HKe := Lib.hid (HKc.out.below hb3 l0)
  have HKf := Lib.hid (HKd.out.below hb3 HKd.out.lt)
  clear k0 k1 l0 hb3 HKc HKd HB2 HRe
  have k0 := HKe.out.cell
  have l0 := HKe.out.lt
  go_wp2_with fail
  refine (HPa.out _ HB3.out).mono ?_
  rintro e w4 ⟨B1, d1, B2, d2, rfl, hmd, hb⟩
  have HB4 := Lib.hid (bthen HB3.out hb)
  have HKg := Lib.hid (HKf.out.below hb HKf.out.lt)
  have HMd := Lib.hid hmd
  have hw1 : w.heap.size + 1 < w4.heap.size := HKg.out.lt
  clear k0 l0 hb hmd HKe HKf HB3
  go_upto_region 7 with fail
  have HV := Lib.hid (below_alloc' w4 (.cells #[.int .i64 PT.length, .slice B1 PT.length d1, .slice B2 6 d2] 62))
  have HP : Hid (Blk (w4.alloc (.cells #[.int .i64 PT.length, .slice B1 PT.length d1, .slice B2 6 d2] 62)) w4.heap.size 62 #[.int .i64 PT.length, .slice B1 PT.length d1, .slice B2 6 d2]) := Lib.hid (Blk.new _ _ _)
  generalize World.alloc w4 _ = V at *
  have k0 := HP.out.cell
  have l0 := HP.out.lt
  have HMV := Lib.hid (HMd.out.below HV.out)
  have HKh := Lib.hid (HKg.out.below HV.out HKg.out.lt)
  have HBV := Lib.hid (bthen HB4.out HV.out)
  clear HMd HKg HB4
  go_wp2_with fail
  refine (HC.out _ _ _ _ _ HMV.out).mono ?_
  rintro e w5 ⟨B3, d3, rfl, ho, hb⟩
  have HCl := Lib.hid (show Ow cI 2 (w.heap.size + 2) w5 _ _ from ho.mono HKh.out.lt)
  have HB5 := Lib.hid (bthen HBV.out hb)
  have HKi := Lib.hid (HKh.out.below hb HKh.out.lt)
  have HPi := Lib.hid (HP.out.below hb HP.out.lt)
  have HM5 := Lib.hid (HMV.out.below hb)
  clear k0 l0 ho hb HKh HP HMV HBV
  go_wp2_with fail
  refine (HMe.out _).mono ?_
  rintro e w6 ⟨vm, rfl, hv, hb⟩
  obtain ⟨A6, c6, rfl⟩ := hv.opn
  have HVm := Lib.hid hv.sl
  have HC6 := Lib.hid (HCl.out.below hb)
  have HB6 := Lib.hid (bthen HB5.out hb)
  have HKj := Lib.hid (HKi.out.below hb HKi.out.lt)
  have HPj := Lib.hid (HPi.out.below hb HPi.out.lt)
  have HM6 := Lib.hid (HM5.out.below hb)
  clear hv hb HCl HB5 HKi HPi HM5
  go_wp2_with fail
  refine (HIx.out _ _ HVm.out).mono ?_
  rintro e w7 ⟨rfl, rfl⟩
  go_upto_region 9 with fail
  have d0 := HPj.out.cell 0
  have d1' := HPj.out.cell 1
  have d2' := HPj.out.cell 2
  simp only [List.getElem?_toArray, List.getElem?_cons_zero, List.getElem?_cons_succ] at d0 d1' d2'
  have hcl := HC6.out
  obtain ⟨b, c9, hv, hbB, hbl, -, -⟩ := hcl.form (by rw [LC.out]; omega)
  injection hv with hA hn hc
  subst hA hc
  obtain ⟨hc0, -, -, -⟩ := hcl.at1 (j := k) rfl (by rw [LC.out]; exact hk) rfl
  rw [li_get] at hc0
  have lP := HPj.out.lt
  have hki : (k : Int) < (PT.length : Int) := by omega
  clear hcl hn
  have hcs : w6.cell? ⟨w4.heap.size, 0, none⟩ = some (.int .i64 PT.length) ∧ w6.cell? ⟨w4.heap.size, 1, none⟩ = some (.slice B1 PT.length d1) ∧ w6.cell? ⟨w4.heap.size, 2, none⟩ = some (.slice B2 6 d2) ∧ w6.cell? ⟨b, k, none⟩ = some (.int .i64 (cl.getD k 0 : Nat)) := ⟨d0, d1', d2', hc0⟩
  go_region_held3 (fun X => X.cell? ⟨w4.heap.size, 0, none⟩ = some (.int .i64 PT.length) ∧ X.cell? ⟨w4.heap.size, 1, none⟩ = some (.slice B1 PT.length d1) ∧ X.cell? ⟨w4.heap.size, 2, none⟩ = some (.slice B2 6 d2) ∧ X.cell? ⟨b, k, none⟩ = some (.int .i64 (cl.getD k 0 : Nat))) (first | exact hcs | exact T6.out.four | exact T7.out.four) (first | (go_at_call 86; refine (HQ.out _ _ _ _ _ _ _ (HM6.out.below (Below.refl _ _).drew) (HC6.out.sl.below (Below.refl _ _).drew)).mono ?_; rintro e w8 ⟨u1, u2, rfl, ho1, ho2, hb⟩; have hb8 : Below w6.heap.size w6 w8 := (Below.refl _ _).drew.trans (hb.mono (Below.refl w6.heap.size w6).drew.size); have hlj := HKj.out.lt; have hlj2 : w.heap.size + 2 ≤ w6.drew.heap.size := Nat.le_trans hlj (Below.refl w6.heap.size w6).drew.size; obtain ⟨C1, f1, rfl⟩ := ho1.opn; obtain ⟨C2, f2, rfl⟩ := ho2.opn; have T6 : Hid (TT w w6.heap.size [(⟨w4.heap.size, 0, none⟩, .int .i64 PT.length), (⟨w4.heap.size, 1, none⟩, .slice B1 PT.length d1), (⟨w4.heap.size, 2, none⟩, .slice B2 6 d2), (⟨b, k, none⟩, .int .i64 (cl.getD k 0 : Nat))] #[.int .i64 0, .slice none 0 0, .slice none 0 0] (.slice C1 rs.length f1) (.slice C2 vs.length f2) rs vs (w.heap.size + 2) w8) := Lib.hid ⟨HKj.out.below hb8 hlj, ho1.mono hlj2, ho2.mono hlj2, hb8.size, bthen HB6.out hb8, cells4 (((hb8.cell (p := ⟨w4.heap.size, 0, none⟩) lP).trans d0)) (((hb8.cell (p := ⟨w4.heap.size, 1, none⟩) lP).trans d1')) (((hb8.cell (p := ⟨w4.heap.size, 2, none⟩) lP).trans d2')) (((hb8.cell (p := ⟨b, k, none⟩) hbl).trans hc0)), by simp; omega, by simp; omega, by omega⟩; have T7 := Lib.hid (T6.out.store (.int .i64 n) (.slice C1 rs.length f1) (.slice C2 vs.length f2)); obtain ⟨i1, i2, i3⟩ := And.intro T6.out.blk.cell (And.intro T6.out.blk.frozen T6.out.blk.lt)))
  clear i1 i2 i3
  have rc := T7.out.blk.cell
  have rf := T7.out.blk.frozen
  have rl := T7.out.blk.lt
  go_wp2
  refine bodyPost_ret (v := .tuple #[.agg #[.int .i64 n, .slice C1 rs.length f1, .slice C2 vs.length f2], .int .i64 (cl.getD k 0 : Nat), .int .i64 0]) (by simp [results, Try.results35, go_sem, rc, rf, rl]) rfl ⟨_, _, rfl, T7.out.o1.mono (by omega), T7.out.o2.mono (by omega), T7.out.be⟩
theorem spec_ReducedModel_bad (n : Int) (x : Int) (va vu : Value) (xs vs : List Int) (w : World) (ha : Sl cI w va xs) (hu : Sl cI w vu vs) (hl : xs.length ≤ 1048576) (hl' : vs.length ≤ 1048576) (hc : mdOk n xs vs = false) :
    Calls Try.prog 35 #[.agg #[.int .i64 n, va, vu], .int .i64 x] w fun e w' => e = .returned (.tuple #[.agg #[.int .i64 0, .slice none 0 0, .slice none 0 0], .int .i64 0, .int .i64 1]) ∧ Below w.heap.size w w' := by
  obtain ⟨A0, c0, rfl⟩ := ha.opn
  obtain ⟨A1, c1, rfl⟩ := hu.opn
  have hb0 := below_alloc' w (.cells #[.int .i64 n, .slice A0 xs.length c0, .slice A1 vs.length c1] 62)
  have hk0 := Blk.new w 62 #[.int .i64 n, .slice A0 xs.length c0, .slice A1 vs.length c1]
  have hb1 := below_alloc' (w.alloc (.cells #[.int .i64 n, .slice A0 xs.length c0, .slice A1 vs.length c1] 62)) (.cells #[.int .i64 0, .slice none 0 0, .slice none 0 0] 62)
  have hk1 : Blk _ (w.heap.size + 1) _ _ := Blk.new' (w.alloc (.cells #[.int .i64 n, .slice A0 xs.length c0, .slice A1 vs.length c1] 62)) 62 #[.int .i64 0, .slice none 0 0, .slice none 0 0] (by simp)
  have HB := Lib.hid (bthen hb0 hb1)
  have HK0 := Lib.hid (hk0.below hb1 hk0.lt)
  have HK1 := Lib.hid hk1
  have HI := Lib.hid (fun W (hW : Below w.heap.size w W) => hc ▸ spec_l06Is n _ _ xs vs W (ha.below hW) (hu.below hW) (by omega) (by omega))
  clear ha hu hb0 hb1 hk0 hk1 hc
  go_enter Try.func35, Try.ntmps35
  go_upto_region 1 with fail
  generalize World.alloc (w.alloc _) _ = W at *
  have k0 := HK0.out.cell
  have l0 := HK0.out.lt
  go_wp2_with fail
  refine (HI.out _ HB.out).mono ?_
  rintro e w1 ⟨rfl, hb⟩
  have HB1 := Lib.hid (bthen HB.out hb)
  have hr1 := HK1.out.below hb HK1.out.lt
  have rc := hr1.cell
  have rf := hr1.frozen
  have rl := hr1.lt
  clear k0 hb hr1
  go_wp2
  refine bodyPost_ret (v := .tuple #[.agg #[.int .i64 0, .slice none 0 0, .slice none 0 0], .int .i64 0, .int .i64 1]) (by simp [results, Try.results35, go_sem, rc, rf, rl]) rfl ⟨rfl, ?_⟩
  first | exact ((HB1.out.setCell (Nat.le_succ _) _).setCell (Nat.le_succ _) _).setCell (Nat.le_succ _) _ | exact HB1.out
theorem spec_ReducedModel_out (n : Int) (x : Int) (va vu : Value) (xs vs : List Int) (w : World) (ha : Sl cI w va xs) (hu : Sl cI w vu vs) (hl : xs.length ≤ 1048576) (hl' : vs.length ≤ 1048576) (hc : mdOk n xs vs = true) (hn : 0 ≤ n ∧ n ≤ 8) (hx : inR x 0 (n - 1) = false) :
    Calls Try.prog 35 #[.agg #[.int .i64 n, va, vu], .int .i64 x] w fun e w' => e = .returned (.tuple #[.agg #[.int .i64 0, .slice none 0 0, .slice none 0 0], .int .i64 0, .int .i64 2]) ∧ Below w.heap.size w w' := by
  obtain ⟨A0, c0, rfl⟩ := ha.opn
  obtain ⟨A1, c1, rfl⟩ := hu.opn
  have hb0 := below_alloc' w (.cells #[.int .i64 n, .slice A0 xs.length c0, .slice A1 vs.length c1] 62)
  have hk0 := Blk.new w 62 #[.int .i64 n, .slice A0 xs.length c0, .slice A1 vs.length c1]
  have hb1 := below_alloc' (w.alloc (.cells #[.int .i64 n, .slice A0 xs.length c0, .slice A1 vs.length c1] 62)) (.cells #[.int .i64 0, .slice none 0 0, .slice none 0 0] 62)
  have hk1 : Blk _ (w.heap.size + 1) _ _ := Blk.new' (w.alloc (.cells #[.int .i64 n, .slice A0 xs.length c0, .slice A1 vs.length c1] 62)) 62 #[.int .i64 0, .slice none 0 0, .slice none 0 0] (by simp)
  have HB := Lib.hid (bthen hb0 hb1)
  have HK0 := Lib.hid (hk0.below hb1 hk0.lt)
  have HK1 := Lib.hid hk1
  have HI := Lib.hid (fun W (hW : Below w.heap.size w W) => hc ▸ spec_l06Is n _ _ xs vs W (ha.below hW) (hu.below hW) (by omega) (by omega))
  have EW := Lib.hid hx
  have HW := Lib.hid (fun W => spec_l05World n x (.slice A0 xs.length c0) A0 xs.length c0 rfl W hn)
  clear ha hu hb0 hb1 hk0 hk1 hc hx
  go_enter Try.func35, Try.ntmps35
  go_upto_region 1 with fail
  generalize World.alloc (w.alloc _) _ = W at *
  have k0 := HK0.out.cell
  have l0 := HK0.out.lt
  go_wp2_with fail
  refine (HI.out _ HB.out).mono ?_
  rintro e w1 ⟨rfl, hb⟩
  have HB1 := Lib.hid (bthen HB.out hb)
  have HKa := Lib.hid (HK0.out.below hb l0)
  have HKb := Lib.hid (HK1.out.below hb HK1.out.lt)
  clear k0 l0 hb HK0 HK1 HB HI
  have k0 := HKa.out.cell
  have l0 := HKa.out.lt
  go_wp2_with fail
  refine (HW.out _).mono ?_
  rintro e w2 ⟨rfl, hb⟩
  rw [EW.out]
  have HB2 := Lib.hid (bthen HB1.out hb)
  have hr1 := HKb.out.below hb HKb.out.lt
  have rc := hr1.cell
  have rf := hr1.frozen
  have rl := hr1.lt
  clear k0 hb hr1
  go_wp2
  refine bodyPost_ret (v := .tuple #[.agg #[.int .i64 0, .slice none 0 0, .slice none 0 0], .int .i64 0, .int .i64 2]) (by simp [results, Try.results35, go_sem, rc, rf, rl]) rfl ⟨rfl, ?_⟩
  first | exact ((HB2.out.setCell (Nat.le_succ _) _).setCell (Nat.le_succ _) _).setCell (Nat.le_succ _) _ | exact HB2.out
end Go.Proofs.Ytcjplcliggciaaa

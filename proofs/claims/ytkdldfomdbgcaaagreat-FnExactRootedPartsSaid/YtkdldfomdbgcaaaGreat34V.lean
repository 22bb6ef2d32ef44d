/- Contracts of parts of orders, of the reference: l16Part, l34Cone. Written by gen34V.py. -/
import Derived.Test.YtkdldfomdbgcaaaGreat34H
namespace Go.Proofs.YtkdldfomdbgcaaaGreat
open Go.RowKit
set_option linter.unusedVariables false
set_option linter.unusedSimpArgs false
/- Contracts of chapters 1 and 5, of the reference: squeezing, parts of relations, places in lists, what is reached. -/
theorem spec_l05Squeeze (v : Value) (m on : Nat) (w : World) (h : Sl cI w v (mems on)) (hm : m < 256) (ho : on < 256) :
    Calls Tryz.prog 113 #[v, .int .i64 m] w fun e w' => e = .returned (.int .i64 (sqz m on : Nat)) ∧ w = w' := by
  have HM8 := Lib.hid (mems8 (n := 8) ho)
  have HMM := Lib.hid (fun x (hx : x ∈ mems on) => mems_mem (n := 8) ho hx)
  have HE : Hid (sqTo m (mems on) (mems on).length = sqz m on) := Lib.hid rfl
  have HST : Hid (∀ k, sqTo m (mems on) (k + 1) = sqTo m (mems on) k ||| if m.testBit ((mems on).getD k 0).toNat then 2 ^ k else 0) := Lib.hid fun k => rfl
  have HZ : Hid (sqTo m (mems on) 0 = 0) := Lib.hid rfl
  have HLT := Lib.hid (sqTo_lt m (mems on))
  obtain ⟨A, c, rfl⟩ := h.opn
  generalize sqz m on = R at *
  generalize mems on = ms at *
  have h8 := HM8.out
  go_enter Tryz.func113, Tryz.ntmps113
  go_wp2
  go_loop [5, 6] (fun t i => ∃ j : Nat, j ≤ ms.length ∧ i = .int .i64 j ∧ t = .int .i64 (sqTo m ms j : Nat)) (fun _ i => ms.length - (intOf i).toNat)
  case atStart => exact ⟨0, Nat.zero_le _, rfl, by rw [HZ.out]; rfl⟩
  case round =>
    obtain ⟨j, hj, rfl, rfl⟩ := hrel
    by_cases hlt : j < ms.length
    · obtain ⟨b, o, rfl, hbl, hc0⟩ := h.atI hlt
      obtain ⟨x, hxx, hxn⟩ := HMM.out ms[j] (List.getElem_mem hlt)
      have HS : Hid (sqTo m ms (j + 1) = sqTo m ms j ||| if m.testBit x then 2 ^ j else 0) := Lib.hid (by rw [HST.out, List.getD_eq_getElem?_getD, List.getElem?_eq_getElem hlt, Option.getD_some, hxx, Int.toNat_natCast])
      rw [hxx] at hc0
      have hq : sqTo m ms j < 256 := Nat.lt_of_lt_of_le (HLT.out j) (show 2 ^ j ≤ 2 ^ 8 from Nat.pow_le_pow_right (by omega) (by omega))
      clear hxx
      generalize sqTo m ms j = q at *
      go_wp2_with fail
      refine (spec_l01Bit m x _ (by omega) (by omega)).mono ?_
      rintro e w2 ⟨rfl, rfl⟩
      cases ht : m.testBit x
      · rw [ht] at HS
        clear ht
        go_wp2
        go_round
        case rel => exact ⟨j + 1, by omega, by go_num, by rw [HS.out]; simp⟩
        case measure => simp [intOf]; omega
      · rw [ht] at HS
        clear ht
        have e2 := i64_or_nat q (2 ^ j) (by omega) (two_pow_lt (by omega))
        rw [← cast_two_pow] at e2
        go_wp2_with fail
        refine (spec_l01One j _ (by omega) (by omega)).mono ?_
        rintro e w2 ⟨rfl, rfl⟩
        rw [Int.toNat_natCast]
        go_wp2
        go_round
        case rel => exact ⟨j + 1, by omega, by go_num, by rw [HS.out]; simp⟩
        case measure => simp [intOf]; omega
    · have HE2 : Hid (sqTo m ms j = R) := Lib.hid (by rw [← HE.out]; congr 1; omega)
      go_wp2
      go_ret
      exact ⟨by rw [HE2.out]; rfl, rfl⟩
/- Contracts of chapter 5, of the reference: the part of a frame. -/
set_option maxHeartbeats 2000000 in
set_option maxRecDepth 100000 in
theorem spec_l16Part (v : Value) (ns : List Nat) (on : Nat) (w : World) (h : Sl cI w v (li ns)) (hr : RelN ns) (ho : on < 2 ^ ns.length) :
    Calls Tryz.prog 74 #[.agg #[.int .i64 ns.length, v], .int .i64 on] w fun e w' => ∃ u, e = .returned (.agg #[.int .i64 (ptr ns on).length, u]) ∧ Ow cI 2 w.heap.size w' u (li (ptr ns on)) ∧ Below w.heap.size w w' := by
  have h8 := hr.1
  have EL := Lib.hid (li_length ns)
  obtain ⟨A, c, rfl⟩ := h.opn
  rw [EL.out] at h ⊢
  have hb0 := below_alloc' w (.cells #[.int .i64 ns.length, .slice A ns.length c] 29)
  have hk0 := Blk.new w 29 #[.int .i64 ns.length, .slice A ns.length c]
  have hb1 := below_alloc' (w.alloc (.cells #[.int .i64 ns.length, .slice A ns.length c] 29)) (.cells #[.int .i64 0, .slice none 0 0] 29)
  have hk1 : Blk _ (w.heap.size + 1) _ _ := Blk.new' (w.alloc (.cells #[.int .i64 ns.length, .slice A ns.length c] 29)) 29 #[.int .i64 0, .slice none 0 0] (by simp)
  have HB := Lib.hid (bthen hb0 hb1)
  have HK0 := Lib.hid (hk0.below hb1 hk0.lt)
  have HK1 := Lib.hid hk1
  have ho256 := Nat.lt_of_lt_of_le ho (two_pow_256 h8)
  have HML := Lib.hid (mems8 ho)
  have HMM := Lib.hid (fun x (hx : x ∈ mems on) => mems_mem ho hx)
  have HX := Lib.hid (fun i => Nat.lt_of_lt_of_le (getD_lt hr.2 i) (two_pow_256 h8))
  have HT := Lib.hid (fun j hj => ptr_take ns on j hj)
  have HTA : Hid ((ptr ns on).take (mems on).length = ptr ns on) := Lib.hid (List.take_of_length_le (by rw [ptr_length]; exact Nat.le_refl _))
  have HTL : Hid (∀ j, j ≤ (mems on).length → (li ((ptr ns on).take j)).length = j) := Lib.hid (fun j hj => by rw [li_length, List.length_take, ptr_length]; omega)
  have HPL : Hid ((ptr ns on).length = (mems on).length) := Lib.hid (ptr_length _ _)
  have HSq := Lib.hid (fun v m W (hW : Sl cI W v (mems on)) (hm : m < 256) => spec_l05Squeeze v m on W hW hm ho256)
  have HLi := Lib.hid (fun W => spec_l01List on W (by omega))
  have H0 := Lib.hid h
  clear h hr ho hb0 hb1 hk0 hk1
  generalize ptr ns on = pt at *
  generalize hms : mems on = ms at *
  clear hms
  go_enter Tryz.func74, Tryz.ntmps74
  go_upto_region 1 with fail
  generalize World.alloc (w.alloc _) _ = W at *
  go_wp2_with fail
  refine (HLi.out _).mono ?_
  rintro e w1 ⟨vm, rfl, hv, hb⟩
  obtain ⟨A2, c2, rfl⟩ := hv.opn
  have HMs := Lib.hid hv.sl
  have HB1 := Lib.hid (bthen HB.out hb)
  have HKa := Lib.hid (HK0.out.below hb HK0.out.lt)
  have HKb := Lib.hid (HK1.out.below hb HK1.out.lt)
  clear hv hb HB HK0 HK1 HLi
  have hm8 := HML.out
  go_wp2
  go_loopw [6, 7] (fun ov i wr => ∃ j : Nat, j ≤ ms.length ∧ i = .int .i64 j ∧ Ow cI 2 w1.heap.size wr ov (li (pt.take j)) ∧ Below w1.heap.size w1 wr) (fun _ i _ => ms.length - (intOf i).toNat)
  case atStart => exact ⟨0, Nat.zero_le _, rfl, Ow.lit [] rfl rfl (Nat.le_refl _), (Below.refl _ _).alloc (Nat.le_refl _) _⟩
  case round =>
    obtain ⟨j, hj, rfl, hov, hb2⟩ := hrel
    have hb : Below w.heap.size w wr := HB1.out.trans (hb2.mono HB1.out.size)
    have HBr := Lib.hid hb
    have HBr2 := Lib.hid hb2
    have hszr := hb2.size
    obtain ⟨Av, cv, rfl⟩ := hov.opn
    rw [HTL.out j hj] at hov ⊢
    have HOV := Lib.hid hov
    have hkr := HKa.out.below hb2 HKa.out.lt
    clear hov
    by_cases hlt : j < ms.length
    · obtain ⟨x, hxx, hxn⟩ := HMM.out ms[j] (List.getElem_mem hlt)
      obtain ⟨b, o, rfl, hbl, hc0⟩ := (HMs.out.below hb2).atI hlt
      obtain ⟨b2, o2, rfl, hbl2, hd0⟩ := (show Sl cI wr (.slice A (li ns).length c) (li ns) by rw [EL.out]; exact H0.out.below hb).atI (k := x) (by rw [EL.out]; exact hxn)
      have HS := Lib.hid (HT.out j hlt)
      rw [hxx] at hc0
      rw [hxx, Int.toNat_natCast] at HS
      rw [li_get] at hd0
      have hx256 := HX.out x
      have HL := Lib.hid (HTL.out j (by omega))
      have hxn2 : (x : Int) < (ns.length : Int) := by omega
      have hjn2 : (j : Int) < (ms.length : Int) := by omega
      obtain ⟨m, hmm⟩ : ∃ m, ns.getD x 0 = m := ⟨_, rfl⟩
      rw [hmm] at hd0 hx256 HS
      have HMr := Lib.hid (HMs.out.below hb2)
      have k1 : wr.cell? ⟨w.heap.size, 1, none⟩ = some (.slice (some ⟨b2, o2, none⟩) ns.length c) := hkr.cell 1
      have l1 := hkr.lt
      obtain ⟨xs, hxs⟩ : ∃ xs, li (pt.take j) = xs := ⟨_, rfl⟩
      rw [hxs] at HOV HL
      have HXE : Hid (li (pt.take (j + 1)) = xs ++ [((sqz m on : Nat) : Int)]) := Lib.hid (by rw [HS.out]; unfold li; rw [List.map_append, ← hxs]; rfl)
      clear hxx hmm hb hb2 hkr hxs
      go_upto_region 5 with fail
      refine wp_region_sched (Below wr.heap.size wr) 12 [0, 1, 2, 3, 4, 5, 6, 7, 8, 9] [0, 1, 2, 3, 4, 5, 6, 7, 8, 9, 10, 11] (by kernel_rfl) (by kernel_rfl) (Below.refl _ _).drew ?_
      repeat
        apply wpSched_q rfl rfl
        case h =>
          intro w' hI K hK
          have k1' := (hI.cell (p := ⟨w.heap.size, 1, none⟩) l1).trans k1
          have hc0' := (hI.cell (p := ⟨b, o + j, none⟩) hbl).trans hc0
          have hd0' := (hI.cell (p := ⟨b2, o2 + x, none⟩) hbl2).trans hd0
          simp only [quietV, stillV]
          go_simp
          exact hK
        go_simp
      refine wpSched_r rfl rfl ?_ (Below.refl _ _).drew
      intro K hK _
      go_simp
      refine (HSq.out _ m _ (HMr.out.below (Below.refl _ _).drew) hx256).mono ?_
      rintro e w6 ⟨rfl, rfl⟩
      refine hK _ _ (Below.refl _ _).drew ?_
      clear hK K
      refine wpSched_r rfl rfl ?_ (Below.refl _ _).drew
      intro K hK _
      go_simp
      refine hK _ _ ((Below.refl _ _).drew.alloc (Below.refl wr.heap.size wr).drew.size _) ?_
      clear hK K
      refine wpSched_nil ?_
      try simp only [List.drop_succ_cons, List.drop_zero]
      have HOD := Lib.hid (HOV.out.below (Below.refl _ _).drew)
      refine ap_one (K := cI) _ ty_int64 rfl _ _ rfl (B := w1.heap.size) (xs := xs) rfl HOD.out ((sqz m on : Nat) : Int) rfl rfl (by have := HL.out; omega) (Nat.le_trans hszr (Below.refl wr.heap.size wr).drew.size) ?_
      intro v1 w3 ho1 hg1 hb1 hat1
      have HO1 : Hid (Ow cI 2 w1.heap.size w3 v1 (li (pt.take (j + 1)))) := Lib.hid (by rw [HXE.out]; exact ho1)
      have HB5 : Hid (Below w1.heap.size w1 w3) := Lib.hid ((HBr2.out.trans ((Below.refl wr.heap.size wr).drew.mono hszr)).trans hb1)
      clear ho1 hg1 hb1 hat1 hc0 hd0 k1
      go_wp2
      go_roundw
      case rel => exact ⟨j + 1, by omega, by go_num, HO1.out, HB5.out⟩
      case measure => simp [intOf]; omega
    · obtain rfl : j = ms.length := by omega
      rw [HTA.out] at HOV
      have HMk := Lib.hid (fun W (hW : Sl cI W (.slice Av ms.length cv) (li pt)) => spec_l16Make _ _ W hW (by rw [li_length, HPL.out]; omega))
      rw [li_length] at HMk
      have HKr := Lib.hid (HKb.out.below hb2 HKb.out.lt)
      clear hb hb2 hkr
      go_wp2_with fail
      refine (HMk.out _ HOV.out.sl).mono ?_
      rintro e w5 ⟨A5, c5, rfl, ho, hb⟩
      have hr1 := HKr.out.below hb HKr.out.lt
      have rc := hr1.cell
      have rf := hr1.frozen
      have rl := hr1.lt
      have hlr := HKr.out.lt
      have Z1 := Lib.hid (show Ow cI 2 (w.heap.size + 2) w5 _ _ from ho.mono hlr)
      have Z2 := Lib.hid (bthen HBr.out hb)
      clear ho hb hr1
      go_wp2
      refine bodyPost_ret (v := .agg #[.int .i64 pt.length, .slice A5 pt.length c5]) (by simp [results, Tryz.results74, go_sem, rc, rf, rl]) rfl ⟨_, rfl, ?_, ?_⟩
      · exact ((Z1.out.setBelow (Nat.lt_succ_self _) _).setBelow (Nat.lt_succ_self _) _).mono (by omega)
      · exact (Z2.out.setCell (Nat.le_succ _) _).setCell (Nat.le_succ _) _
theorem spec_l16PartA (ns : List Nat) (on : Nat) (v : Value) (w : World) (h : Sl cI w v (li ns)) (hr : RelN ns) (ho : on < 2 ^ ns.length) :
    Calls Tryz.prog 74 #[.agg #[.int .i64 (ns.length : Int), v], .int .i64 (on : Int)] w fun e w' => ∃ A c, e = .returned (.agg #[.int .i64 ((ptr ns on).length : Int), .slice A (ptr ns on).length c]) ∧ Ow cI 2 w.heap.size w' (.slice A (ptr ns on).length c) (li (ptr ns on)) ∧ Below w.heap.size w w' :=
  (spec_l16Part v ns on w h hr ho).mono fun e w' ⟨u, h1, h2, h3⟩ => by
    obtain ⟨A, c, e9⟩ := h2.opn
    rw [li_length] at e9
    subst e9
    exact ⟨A, c, h1, h2, h3⟩
set_option maxRecDepth 100000 in
theorem spec_l34Cone (ns : List Nat) (x : Nat) (v : Value) (w : World) (h : Sl cI w v (li ns)) (hr : RelN ns) (hx : x < ns.length) :
    Calls Tryz.prog 45 #[.agg #[.int .i64 (ns.length : Int), v], .int .i64 (x : Int)] w fun e w' => ∃ A c, e = .returned (.agg #[.int .i64 ((ptr ns (ns.getD x 0)).length : Int), .slice A (ptr ns (ns.getD x 0)).length c]) ∧ Ow cI 2 w.heap.size w' (.slice A (ptr ns (ns.getD x 0)).length c) (li (ptr ns (ns.getD x 0))) ∧ Below w.heap.size w w' := by
  obtain ⟨A0, c0, rfl⟩ := h.opn
  have EL := Lib.hid (li_length ns)
  rw [EL.out] at h ⊢
  obtain ⟨b, o, rfl, hbw, hcw⟩ := h.atI (k := x) (by rw [EL.out]; exact hx)
  rw [li_get] at hcw
  have HX := Lib.hid h
  have HBW := Lib.hid hbw
  have HOn := Lib.hid (fun W (hW : Sl cI W (.slice (some ⟨b, o, none⟩) ns.length c0) (li ns)) => spec_l16PartA ns (ns.getD x 0) _ W hW hr (getD_lt hr.2 x))
  have HGx := Lib.hid (fun W (hW : Sl cI W (.slice (some ⟨b, o, none⟩) ns.length c0) (li ns)) => show W.cell? ⟨b, o + x, none⟩ = some (.int .i64 (ns.getD x 0 : Nat)) from by
    obtain ⟨b', o', e, -, hc⟩ := hW.atI (k := x) (by rw [EL.out]; exact hx)
    injection e with e
    injection e with e1 e2
    subst e1; subst e2
    rwa [li_get] at hc)
  have A := Lib.hid (Below.refl w.heap.size w)
  clear h hr hcw
  generalize ptr ns (ns.getD x 0) = P at *
  generalize ns.getD x 0 = m at *
  go_enter Tryz.func45, Tryz.ntmps45
  go_upto_region 1 with fail
  have hb := bthen (below_alloc' w (.cells #[.int .i64 ns.length, .slice (some ⟨b, o, none⟩) ns.length c0] 29)) (below_alloc' (World.alloc w (.cells #[.int .i64 ns.length, .slice (some ⟨b, o, none⟩) ns.length c0] 29)) (.cells #[.int .i64 0, .slice none 0 0] 29))
  have T1 : Hid (Blk (World.alloc (World.alloc w (.cells #[.int .i64 ns.length, .slice (some ⟨b, o, none⟩) ns.length c0] 29)) (.cells #[.int .i64 0, .slice none 0 0] 29)) w.heap.size 29 #[.int .i64 ns.length, .slice (some ⟨b, o, none⟩) ns.length c0]) := Lib.hid ((Blk.new w _ _).alloc _)
  have HK : Hid (Blk (World.alloc (World.alloc w (.cells #[.int .i64 ns.length, .slice (some ⟨b, o, none⟩) ns.length c0] 29)) (.cells #[.int .i64 0, .slice none 0 0] 29)) (w.heap.size + 1) 29 #[.int .i64 0, .slice none 0 0]) := Lib.hid (Blk.new' _ 29 #[.int .i64 0, .slice none 0 0] (by simp))
  replace HX := Lib.hid (HX.out.below hb)
  replace A := Lib.hid (bthen A.out hb)
  clear hb hbw
  generalize World.alloc (World.alloc w _) _ = w1 at *
  have a0 := T1.out.cell 0
  have a1 := T1.out.cell 1
  have a2 := T1.out.lt
  have a3 := HGx.out _ HX.out
  go_wp2
  go_still_tail 6, (by kernel_rfl)
  repeat still_step
  first | refine wpStill_nil ?_ | skip
  change wpList _ _ _ _ _ (World.drew _)
  have hd := below_drewN (Below.refl w1.heap.size w1) 1
  replace HX := Lib.hid (HX.out.below hd)
  replace HK := Lib.hid (HK.out.below hd HK.out.lt)
  replace A := Lib.hid (bthen A.out hd)
  change Hid (Sl cI (World.drew w1) _ _) at HX
  change Hid (Blk (World.drew w1) _ _ _) at HK
  change Hid (Below _ w (World.drew w1)) at A
  clear hd a0 a1 a2 a3 T1
  generalize World.drew w1 = w2 at *
  go_wp2_with fail
  refine (HOn.out _ HX.out).mono ?_
  rintro e w3 ⟨A3, c3, rfl, hO, hb⟩
  have hk1 := HK.out.lt
  have O := Lib.hid hO
  have ZA : Hid (w.heap.size + 1 < w2.heap.size) := Lib.hid hk1
  replace HK := Lib.hid (HK.out.below hb HK.out.lt)
  replace A := Lib.hid (bthen A.out hb)
  clear hb hO HX hk1
  have rc := HK.out.cell
  have rf := HK.out.frozen
  have rl := HK.out.lt
  have zA := ZA.out
  go_wp2
  refine bodyPost_ret (v := .agg #[.int .i64 (P.length : Int), .slice A3 P.length c3]) (by simp [results, Tryz.results45, go_sem, rc, rf, rl]) rfl ⟨_, _, rfl, ?_, ?_⟩
  · exact ((O.out.setBelow zA _).setBelow zA _).mono (by omega)
  · exact (A.out.setCell (Nat.le_succ _) _).setCell (Nat.le_succ _) _
end Go.Proofs.YtkdldfomdbgcaaaGreat

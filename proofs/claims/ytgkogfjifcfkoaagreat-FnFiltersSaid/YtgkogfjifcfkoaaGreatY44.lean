/- The reference's drawing functions of posets, exact: what is drawn is reflexive, and the upsets are all of them. Written by gen19D.py. -/
import Derived.Test.YtgkogfjifcfkoaaGreatY39
import Derived.Test.YtgkogfjifcfkoaaGreatY43
namespace Go.Proofs.YtgkogfjifcfkoaaGreat
open Go.RowKit
set_option linter.unusedVariables false
set_option linter.unusedSimpArgs false
theorem spec_l05SqueezeM (v : Value) (m : Nat) (os : List Nat) (w : World) (h : Sl cI w v (li os)) (hm : m < 1073741824) (h30 : os.length ≤ 30) (hx : ∀ x ∈ os, x < 30) :
    Calls Tryz.prog 203 #[v, .int .i64 m] w fun e w' => e = .returned (.int .i64 (sqM m os os.length : Nat)) ∧ w = w' := by
  obtain ⟨R, hR⟩ : ∃ R, sqM m os os.length = R := ⟨_, rfl⟩
  rw [hR]
  have HE := Lib.hid hR
  clear hR
  have HL := Lib.hid (li_length os)
  have HO := Lib.hid (fun j (hj : j < os.length) => getD_all hx hj)
  have HST : Hid (∀ k, sqM m os (k + 1) = sqM m os k ||| if m.testBit (os.getD k 0) then 2 ^ k else 0) := Lib.hid fun k => rfl
  have HZ : Hid (sqM m os 0 = 0) := Lib.hid rfl
  have HLT : Hid (∀ k, sqM m os k < 2 ^ k) := Lib.hid (fun k => msk_lt _ _)
  obtain ⟨A, c, rfl⟩ := h.opn
  rw [HL.out] at h ⊢
  clear hx
  go_enter Tryz.func203, Tryz.ntmps203
  go_wp2
  go_loop [5, 6] (fun t i => ∃ j : Nat, j ≤ os.length ∧ i = .int .i64 j ∧ t = .int .i64 (sqM m os j : Nat)) (fun _ i => os.length - (intOf i).toNat)
  case atStart => exact ⟨0, Nat.zero_le _, rfl, by rw [HZ.out]; rfl⟩
  case round =>
    obtain ⟨j, hj, rfl, rfl⟩ := hrel
    by_cases hlt : j < os.length
    · obtain ⟨b, o, rfl, hbl, hc0⟩ := h.atI (k := j) (by rw [HL.out]; exact hlt)
      rw [li_get] at hc0
      have hxn := HO.out j hlt
      have HS := Lib.hid (HST.out j)
      have hq : sqM m os j < 1073741824 := Nat.lt_of_lt_of_le (HLT.out j) (two_pow_30 (by omega))
      generalize os.getD j 0 = x at *
      generalize sqM m os j = q at *
      go_wp2_with fail
      refine (spec_l01Bit m x _ (by omega) (by omega)).mono ?_
      rintro e w2 ⟨rfl, rfl⟩
      cases ht : m.testBit x
      · rw [ht] at HS
        clear ht
        go_wp2
        go_round
        case rel => exact ⟨j + 1, by omega, by go_num, by rw [HS.out]; simp⟩
        case measure => simp [intOf]; omega
      · rw [ht] at HS
        clear ht
        have e2 := i64_or_nat q (2 ^ j) (by omega) (two_pow_lt (by omega))
        rw [← cast_two_pow] at e2
        go_wp2_with fail
        refine (spec_l01One j _ (by omega) (by omega)).mono ?_
        rintro e w2 ⟨rfl, rfl⟩
        rw [Int.toNat_natCast]
        go_wp2
        go_round
        case rel => exact ⟨j + 1, by omega, by go_num, by rw [HS.out]; simp⟩
        case measure => simp [intOf]; omega
    · have HE2 : Hid (sqM m os j = R) := Lib.hid (by rw [← HE.out]; congr 1; omega)
      go_wp2
      go_ret
      exact ⟨by rw [HE2.out]; rfl, rfl⟩
theorem rnM_take (ns o : List Nat) {j : Nat} (h : j < o.length) : (rnM ns o).take (j + 1) = (rnM ns o).take j ++ [sqM (ns.getD (o.getD j 0) 0) o o.length] := by
  rw [List.take_succ_eq_append_getElem (by rw [rnM_length]; exact h), ← getD_at (by rw [rnM_length]; exact h), rnM_getD ns o h]
set_option maxRecDepth 100000 in
set_option maxHeartbeats 1000000 in
theorem spec_l05RenumberM (ns o : List Nat) (v u : Value) (w : World) (h : Sl cI w v (li ns)) (h' : Sl cI w u (li o)) (hr : RelM ns) (ho : ∀ x ∈ o, x < ns.length) (hl : o.length = ns.length) :
    Calls Tryz.prog 171 #[v, u] w fun e w' => ∃ A c, e = .returned (.slice A ns.length c) ∧ Ow cI 2 w.heap.size w' (.slice A ns.length c) (li (rnM ns o)) ∧ Below w.heap.size w w' := by
  obtain ⟨A0, c0, rfl⟩ := h.opn
  obtain ⟨A1, c1, rfl⟩ := h'.opn
  have h30 := hr.1
  have EL := Lib.hid (li_length ns)
  have OL := Lib.hid (show (li o).length = ns.length by rw [li_length, hl])
  rw [EL.out] at h
  rw [OL.out] at h'
  rw [EL.out, OL.out]
  have HX := Lib.hid h
  have HO := Lib.hid h'
  have HN : Hid (∀ i, i < ns.length → o.getD i 0 < ns.length) := Lib.hid (fun i hi => ho _ (getD_mem (by omega)))
  have HG : Hid (∀ x, ns.getD x 0 < 1073741824) := Lib.hid (fun x => hr.lt x)
  have HQ := Lib.hid (fun m (hm : m < 1073741824) W (hW : Sl cI W (.slice A1 ns.length c1) (li o)) => spec_l05SqueezeM _ m o W hW hm (by omega) (fun x hx => by have := ho x hx; omega))
  rw [hl] at HQ
  have HT : Hid (∀ j, j < ns.length → (rnM ns o).take (j + 1) = (rnM ns o).take j ++ [sqM (ns.getD (o.getD j 0) 0) o ns.length]) := Lib.hid (fun j hj => by rw [rnM_take ns o (by omega), hl])
  have HT0 := Lib.hid (show (rnM ns o).take ns.length = rnM ns o from List.take_of_length_le (by rw [rnM_length, hl]; exact Nat.le_refl _))
  have HTL := Lib.hid (fun (j : Nat) (hj : j ≤ ns.length) => show (li ((rnM ns o).take j)).length = j by rw [li_length, List.length_take, rnM_length, hl]; omega)
  clear h h' hr ho hl
  go_enter Tryz.func171, Tryz.ntmps171
  go_wp2
  go_loopw [5, 6] (fun v i wr => ∃ j : Nat, j ≤ ns.length ∧ i = .int .i64 j ∧ Ow cI 2 w.heap.size wr v (li ((rnM ns o).take j)) ∧ Below w.heap.size w wr) (fun _ i _ => ns.length - (intOf i).toNat)
  case atStart => exact ⟨0, Nat.zero_le _, rfl, Ow.lit (K := cI) [] rfl rfl (Nat.le_refl _), below_alloc' _ _⟩
  case round =>
    obtain ⟨j, hj, rfl, hO, hb⟩ := hrel
    obtain ⟨w1, hw1⟩ : ∃ W, W = wr := ⟨_, rfl⟩
    subst hw1
    obtain ⟨A2, c2, rfl⟩ := hO.opn
    have HLx := Lib.hid (HTL.out j hj)
    rw [HLx.out] at hO ⊢
    have O := Lib.hid hO
    have HB := Lib.hid hb
    by_cases hlt : j < ns.length
    · obtain ⟨b, p, rfl, hbl, hcx⟩ := (HO.out.below hb).atI (k := j) (by rw [OL.out]; exact hlt)
      obtain ⟨d, q, rfl, hdl, hdx⟩ := (HX.out.below hb).atI (k := o.getD j 0) (by rw [EL.out]; exact HN.out j hlt)
      rw [li_get] at hcx hdx
      have hx := HN.out j hlt
      have hm := HG.out (o.getD j 0)
      have HE := Lib.hid (HT.out j hlt)
      have HSx := Lib.hid (HQ.out _ hm)
      have HO1 := Lib.hid (HO.out.below hb)
      have HLI1 : Hid (li ((rnM ns o).take (j + 1)) = li ((rnM ns o).take j) ++ [((sqM (ns.getD (o.getD j 0) 0) o ns.length : Nat) : Int)]) := Lib.hid (by rw [HE.out, li_append]; rfl)
      have i6 : (j : Int) < (ns.length : Int) := by omega
      generalize sqM (ns.getD (o.getD j 0) 0) o ns.length = r at *
      generalize ns.getD (o.getD j 0) 0 = m at *
      generalize o.getD j 0 = x at *
      generalize li ((rnM ns o).take j) = L at *
      clear hO hb HE
      go_wp2_with fail
      refine (HSx.out _ HO1.out).mono ?_
      rintro e w3 ⟨rfl, rfl⟩
      clear hcx hdx
      go_wp2_with (at_builtin; refine stopHere ?_)
      refine goHere ?_
      refine ap_one (K := cI) _ ty_int64 rfl _ _ rfl (B := w.heap.size) (v := .slice A2 j c2) (xs := L) rfl O.out (r : Int) rfl rfl (by have := HLx.out; omega) HB.out.size ?_
      intro v1 w7 ho1 hg1 hb1 hat1
      have O1 := Lib.hid ho1
      have B1 := Lib.hid (HB.out.trans hb1)
      clear ho1 hg1 hb1 hat1
      go_wp2
      exact ⟨⟨j + 1, by omega, by go_num, by rw [HLI1.out]; exact O1.out, B1.out⟩, by simp [intOf]; omega⟩
    · obtain rfl : j = ns.length := by omega
      rw [HT0.out] at O
      clear hO hb
      go_wp2
      go_ret
      exact ⟨_, _, rfl, O.out, HB.out⟩
set_option maxRecDepth 100000 in
set_option maxHeartbeats 4000000 in
theorem spec_l16ShuffleX (w0 : World) (v : Value) (xs : List (Fin 256)) (w : World) (g : Nat) (n : Nat) (S : Src 95 w0 v xs w g) (h8 : n ≤ 30) :
    Calls Tryz.prog 172 #[.pointer (some ⟨g, 0, none⟩), .int .i64 (n : Int)] w fun e w' => ∃ u os, e = .returned u ∧ Prm n os ∧ Ow cI 2 w.heap.size w' u (li os) ∧ Src 95 w0 v xs w' g ∧ w.grownBy w' (some g) := by
  have HB : Hid (w.heap.size ≤ w.heap.size) := Lib.hid (Nat.le_refl _)
  have D := Lib.hid (Dg.start S)
  clear S
  go_enter Tryz.func172, Tryz.ntmps172
  go_wp2
  go_loopw [5, 6] (fun a i wr => ∃ j : Nat, j ≤ n ∧ i = .int .i64 (j : Int) ∧ Ow cI 2 w.heap.size wr a (li (List.range j)) ∧ Dg w0 v xs g w wr) (fun _ i _ => n - (intOf i).toNat)
  case atStart => exact ⟨0, Nat.zero_le _, rfl, Ow.lit (K := cI) [] rfl rfl (Nat.le_refl _), D.out.alloc _⟩
  case round =>
    clear D
    obtain ⟨j, hj, rfl, OA, D⟩ := hrel
    obtain ⟨w1, hw1⟩ : ∃ W, W = wr := ⟨_, rfl⟩
    subst hw1
    obtain ⟨Aa, ca, rfl⟩ := OA.opn
    rw [li_length, List.length_range] at OA ⊢
    replace OA := Lib.hid OA
    replace D := Lib.hid D
    by_cases hlt : j < n
    · have bsz := D.out.size
      go_wp2_with (at_builtin; refine stopHere ?_)
      refine goHere ?_
      refine ap_one (K := cI) _ ty_int64 rfl _ _ rfl (B := w.heap.size) (v := .slice Aa j ca) (xs := li (List.range j)) rfl OA.out (j : Int) rfl rfl (by rw [li_length, List.length_range]; omega) bsz ?_
      intro v1 w9 ho1 hg1 hb1 hat1
      rw [← li_snoc, ← List.range_succ] at ho1
      have D9 := Lib.hid (D.out.grown (grown_alloc _ hg1) (fun q e => by have := OA.out.block q e; omega))
      have O9 := Lib.hid ho1
      clear ho1 hg1 hb1 hat1
      go_wp2
      exact ⟨⟨j + 1, by omega, by go_num, O9.out, D9.out⟩, by simp [intOf]; omega⟩
    · obtain rfl : j = n := by omega
      go_wp2
      go_loopw [7] (fun i wr => ∃ (t : Nat) (os : List Nat), t ≤ j ∧ i = .int .i64 ((t : Int) - 1) ∧ Prm j os ∧ Ow cI 2 w.heap.size wr (.slice Aa j ca) (li os) ∧ Dg w0 v xs g w wr) (fun i _ => (intOf i + 1).toNat)
      case atStart => exact ⟨j, List.range j, Nat.le_refl _, by go_num, Prm.range j, OA.out, D.out⟩
      case round =>
        clear OA D
        obtain ⟨t, os, ht, rfl, hos, OA, D⟩ := hrel
        have hol := hos.l
        obtain ⟨w2, hw2⟩ : ∃ W, W = wr := ⟨_, rfl⟩
        subst hw2
        replace OA := Lib.hid OA
        replace D := Lib.hid D
        replace hos := Lib.hid hos
        by_cases h1 : t ≤ 1
        · go_wp2
          go_ret
          exact ⟨_, os, rfl, hos.out, OA.out, D.out.S, D.out.gr⟩
        · obtain ⟨i, rfl⟩ : ∃ i, t = i + 2 := ⟨t - 2, by omega⟩
          rw [show (((i + 2 : Nat) : Int) - 1) = ((i + 1 : Nat) : Int) by omega]
          have hil : i + 1 < (li os).length := by rw [li_length]; omega
          go_wp2_with fail
          refine (spec_l01Next _ _ _ _ _ (((i + 1 : Nat) : Int) + 1) D.out.S (by omega) (by omega)).mono ?_
          rintro e w1 ⟨k, rfl, hk, hS, hg, -⟩
          replace OA := Lib.hid (D.out.passB OA.out HB.out hg)
          replace D := Lib.hid (D.out.call hS hg)
          clear hS hg
          obtain ⟨ga, cc, hv, gB, gl, -⟩ := OA.out.form (by omega)
          injection hv with hA hN hC
          subst hA
          subst hC
          clear hN
          have hkl : k < (li os).length := by rw [li_length]; omega
          obtain ⟨ci, fi, -, -⟩ := OA.out.at1 rfl hil rfl
          obtain ⟨ck, fk, -, -⟩ := OA.out.at1 rfl hkl rfl
          rw [li_get] at ci ck
          have HSw := Lib.hid (hos.out.swap (i := i + 1) (k := k) (by omega) (by omega))
          obtain ⟨yi, hyi⟩ : ∃ y, os.getD (i + 1) 0 = y := ⟨_, rfl⟩
          obtain ⟨yk, hyk⟩ : ∃ y, os.getD k 0 = y := ⟨_, rfl⟩
          rw [hyi] at ci HSw
          rw [hyk] at ck HSw
          have O9 := Lib.hid (OA.out.set1 (j := i + 1) (x := (yk : Int)) (u := .int .i64 (yk : Int)) rfl rfl hil)
          rw [li_set] at O9
          have D9 := Lib.hid (D.out.set (p := ⟨ga, i + 1, none⟩) (show w.heap.size ≤ ga by omega) (.int .i64 (yk : Int)))
          have hol9 : (os.set (i + 1) yk).length = j := by rw [List.length_set]; exact hol
          clear hyi hyk
          go_upto_region 12 with fail
          generalize World.setCell w1 _ _ = W9 at *
          clear OA D hos ci ck fi fk hil hkl hol
          obtain ⟨oz, hoz⟩ : ∃ oz, os.set (i + 1) yk = oz := ⟨_, rfl⟩
          rw [hoz] at O9 HSw hol9
          clear hoz
          have hkl : k < (li oz).length := by rw [li_length]; omega
          obtain ⟨ck, fk, -, -⟩ := O9.out.at1 rfl hkl rfl
          have O8 := Lib.hid (O9.out.set1 (j := k) (x := (yi : Int)) (u := .int .i64 (yi : Int)) rfl rfl hkl)
          rw [li_set] at O8
          have D8 := Lib.hid (D9.out.set (p := ⟨ga, k, none⟩) (show w.heap.size ≤ ga by omega) (.int .i64 (yi : Int)))
          go_wp2
          exact ⟨⟨i + 1, oz.set k yi, by omega, by go_num, HSw.out, O8.out, D8.out⟩, by simp [intOf]; omega⟩
theorem jn_take {ns : List Nat} {k : Nat} (hk : k < ns.length) : li ((jn ns).take (1 + (k + 1))) = li ((jn ns).take (1 + k)) ++ [((ns.getD k 0 * 2 : Nat) : Int)] := by
  rw [show 1 + (k + 1) = (k + 1) + 1 by omega, show 1 + k = k + 1 by omega]
  rw [List.take_succ_eq_append_getElem (show k + 1 < (jn ns).length by rw [jn_length]; omega), li_snoc]
  congr 2
  show ((((ns.map fun x => x * 2)[k]'(by rw [List.length_map]; exact hk) : Nat)) : Int) = _
  rw [List.getElem_map, ← getD_at hk]
set_option maxRecDepth 100000 in
set_option maxHeartbeats 4000000 in
theorem spec_l16JoinX (v u : Value) (ns : List Nat) (w : World) (h : Sl cI w v [1]) (h' : Sl cI w u (li ns)) (hr : RelN ns) (h7 : ns.length ≤ 7) :
    Calls Tryz.prog 173 #[.agg #[.int .i64 1, v], .agg #[.int .i64 (ns.length : Int), u], .bool true] w fun e w' => ∃ z, e = .returned (.agg #[.int .i64 ((jn ns).length : Int), z]) ∧ Ow cI 2 w.heap.size w' z (li (jn ns)) ∧ Below w.heap.size w w' := by
  obtain ⟨L1, hL1⟩ : ∃ L1 : List Int, L1 = [1] := ⟨_, rfl⟩
  obtain ⟨L2, hL2⟩ : ∃ L2 : List Int, L2 = li ns := ⟨_, rfl⟩
  obtain ⟨n2, hn2⟩ : ∃ n2, n2 = ns.length := ⟨_, rfl⟩
  rw [← hL1] at h
  rw [← hL2] at h'
  rw [← hn2]
  have E1 := Lib.hid hL1
  have h62 : n2 ≤ 62 := by omega
  have hl1 : L1.length ≤ 1000 := by rw [hL1]; decide
  have hl2 : L2.length ≤ 1000 := by rw [hL2, li_length]; omega
  have HY0 : Hid (∀ F : Nat, F = 2 ^ n2 - 1 → bits BinOp.or IntKind.i64 1 (wrap64 ((F : Int) * 2)) = ((2 ^ (ns.length + 1) - 1 : Nat) : Int)) := Lib.hid (fun F hF => by
    have h8 : n2 ≤ 7 := by omega
    rw [hF, ← hn2]
    clear hn2
    have : n2 = 0 ∨ n2 = 1 ∨ n2 = 2 ∨ n2 = 3 ∨ n2 = 4 ∨ n2 = 5 ∨ n2 = 6 ∨ n2 = 7 := by omega
    rcases this with h | h | h | h | h | h | h | h <;> rw [h] <;> decide +kernel)
  have HY1 : Hid (∀ k (hk : k < L2.length), IntKind.i64.wrap (L2[k] * 2 ^ min (IntKind.u64.wrap 1).toNat 64) = ((ns.getD k 0 * 2 : Nat) : Int)) := Lib.hid (fun k hk => by
    subst hL2
    rw [li_get]
    have := Nat.lt_of_lt_of_le (getD_lt hr.2 k) (two_pow_256 hr.1)
    generalize ns.getD k 0 = x at *
    show IntKind.i64.wrap ((x : Int) * 2) = _
    rw [show ((x : Int) * 2) = ((x * 2 : Nat) : Int) by omega]
    exact IntWalk.i64_in _ ⟨by omega, by omega⟩)
  have HM : Hid (∀ k, k < L2.length → li ((jn ns).take (1 + k)) ++ [((ns.getD k 0 * 2 : Nat) : Int)] = li ((jn ns).take (1 + (k + 1)))) := Lib.hid (fun k hk => by
    rw [hL2, li_length] at hk
    exact (jn_take hk).symm)
  have HML0 : Hid (∀ k, k ≤ L2.length → (li ((jn ns).take (1 + k))).length = 1 + k) := Lib.hid (fun k hk => by
    rw [hL2, li_length] at hk
    rw [li_length, List.length_take, jn_length]
    omega)
  have HJ : Hid (li ((jn ns).take (1 + L2.length)) = li (jn ns) ∧ (jn ns).length = 1 + L2.length) := Lib.hid (by
    rw [hL2, li_length]
    exact ⟨by rw [List.take_of_length_le (by rw [jn_length]; omega)], by rw [jn_length]; omega⟩)
  have HJ1 : Hid (li ((jn ns).take 1) = [((2 ^ (ns.length + 1) - 1 : Nat) : Int)]) := Lib.hid rfl
  have HL1 := Lib.hid (show L1.length = 1 by rw [hL1]; rfl)
  clear hn2 hL2 hL1 hr h7
  obtain ⟨A0, c0, rfl⟩ := h.opn
  obtain ⟨A1, c1, rfl⟩ := h'.opn
  have A := Lib.hid (Below.refl w.heap.size w)
  have HX := Lib.hid h
  have HY := Lib.hid h'
  obtain ⟨F, hF⟩ : ∃ F, F = 2 ^ n2 - 1 := ⟨_, rfl⟩
  have HQ := Lib.hid (fun W n => q_l01FullP n2 F hF h62 W n)
  replace HY0 := Lib.hid (HY0.out F hF)
  have HMk := Lib.hid (fun v (xs : List Int) W (hW : Sl cI W v xs) (hl : xs.length ≤ 1048576) => spec_l16Make v xs W hW hl)
  clear h h' hF
  go_enter Tryz.func173, Tryz.ntmps173
  go_upto_region 1 with fail
  have T1 : Hid (Bk (World.alloc (World.alloc (World.alloc w (.cells #[.int .i64 1, .slice A0 L1.length c0] 42)) (.cells #[.int .i64 (n2 : Int), .slice A1 L2.length c1] 42)) (.cells #[.int .i64 0, .slice none 0 0] 42)) w.heap.size #[.int .i64 1, .slice A0 L1.length c0]) := Lib.hid (((Bk.new w _ _).alloc _).alloc _)
  have T2 : Hid (Bk (World.alloc (World.alloc (World.alloc w (.cells #[.int .i64 1, .slice A0 L1.length c0] 42)) (.cells #[.int .i64 (n2 : Int), .slice A1 L2.length c1] 42)) (.cells #[.int .i64 0, .slice none 0 0] 42)) (w.heap.size + 1) #[.int .i64 (n2 : Int), .slice A1 L2.length c1]) := Lib.hid (by
    have := (Bk.new (World.alloc w (.cells #[.int .i64 1, .slice A0 L1.length c0] 42)) #[.int .i64 (n2 : Int), .slice A1 L2.length c1] 42).alloc (.cells #[.int .i64 0, .slice none 0 0] 42)
    rwa [size_alloc'] at this)
  have HK : Hid (Blk (World.alloc (World.alloc (World.alloc w (.cells #[.int .i64 1, .slice A0 L1.length c0] 42)) (.cells #[.int .i64 (n2 : Int), .slice A1 L2.length c1] 42)) (.cells #[.int .i64 0, .slice none 0 0] 42)) (w.heap.size + 2) 42 #[.int .i64 0, .slice none 0 0]) := Lib.hid (Blk.new' _ 42 #[.int .i64 0, .slice none 0 0] (by rw [size_alloc', size_alloc']))
  have hb : Below w.heap.size w (World.alloc (World.alloc (World.alloc w (.cells #[.int .i64 1, .slice A0 L1.length c0] 42)) (.cells #[.int .i64 (n2 : Int), .slice A1 L2.length c1] 42)) (.cells #[.int .i64 0, .slice none 0 0] 42)) := bthen (bthen (below_alloc' _ _) (below_alloc' _ _)) (below_alloc' _ _)
  replace HX := Lib.hid (HX.out.below hb)
  replace HY := Lib.hid (HY.out.below hb)
  replace A := Lib.hid (bthen A.out hb)
  clear hb
  generalize World.alloc (World.alloc (World.alloc w _) _) _ = w1 at *
  go_wp2
  go_loopw [7, 8] (fun v i wr => ∃ (j : Nat) (L : List Int), j ≤ L1.length ∧ i = .int .i64 j ∧ L.length = j ∧ L = (li ((jn ns).take 1)).take j ∧ Ow cI 2 w1.heap.size wr v L ∧ Below w1.heap.size w1 wr) (fun _ i _ => L1.length - (intOf i).toNat)
  case atStart => exact ⟨0, [], Nat.zero_le _, rfl, rfl, rfl, Ow.lit (K := cI) [] rfl rfl (Nat.le_refl _), below_alloc' _ _⟩
  case round =>
    obtain ⟨j, L, hj, rfl, hl, hlv, ho, hb⟩ := hrel
    have HLV := Lib.hid hlv
    clear hlv
    obtain ⟨w2, hw2⟩ : ∃ W, W = wr := ⟨_, rfl⟩
    subst hw2
    obtain ⟨A2, c2, rfl⟩ := ho.opn
    rw [hl] at ho ⊢
    have HLL := Lib.hid hl
    have OA := Lib.hid ho
    have HB := Lib.hid hb
    have hz := hb.size
    have a1 : w2.cell? ⟨w.heap.size, 1, none⟩ = some (.slice A0 L1.length c0) := (T1.out.below hb).2 1
    have a0 : w2.cell? ⟨w.heap.size, 0, none⟩ = some (.int .i64 1) := (T1.out.below hb).2 0
    have b0 : w2.cell? ⟨w.heap.size + 1, 0, none⟩ = some (.int .i64 (n2 : Int)) := (T2.out.below hb).2 0
    clear hl ho
    by_cases hlt : j < L1.length
    · obtain ⟨b, o, rfl, hbl, hcx⟩ := (HX.out.below hb).atI (k := j) hlt
      have hj0 : j = 0 := by have := HL1.out; omega
      have hx1 : L1[j] = 1 := by simp only [E1.out, hj0]; rfl
      rw [hx1] at hcx
      have HJ0 := Lib.hid hj0
      clear hx1 hb hj0
      go_upto_region 7 with fail
      go_quiet ((go_at_call 86; exact HQ.out _ _))
      rw [HY0.out]
      have HYJ := Lib.hid HJ1.out
      obtain ⟨y, hy⟩ : ∃ y, ((2 ^ (ns.length + 1) - 1 : Nat) : Int) = y := ⟨_, rfl⟩
      rw [hy] at HYJ ⊢
      clear hy a0 b0 hcx
      replace OA := Lib.hid (OA.out.drewN nq)
      replace HB := Lib.hid (below_drewN HB.out nq)
      replace hz := HB.out.size
      generalize World.drewN w2 nq = w3 at *
      go_wp2_with (at_builtin; refine stopHere ?_)
      refine goHere ?_
      refine ap_one (K := cI) _ ty_int64 rfl _ _ rfl (B := w1.heap.size) (v := .slice A2 j c2) (xs := L) rfl OA.out (y : Int) rfl rfl (by have := HLL.out; omega) (by omega) ?_
      intro v1 w7 ho1 hg1 hb1 hat1
      have O1 := Lib.hid ho1
      have B1 := Lib.hid (HB.out.trans (hb1.mono (by omega)))
      have HL1x : Hid ((L ++ [y]).length = j + 1) := Lib.hid (by rw [List.length_append, HLL.out]; rfl)
      have HLVx : Hid (L ++ [y] = (li ((jn ns).take 1)).take (j + 1)) := Lib.hid (by rw [HLV.out, HJ0.out, HYJ.out]; rfl)
      clear ho1 hg1 hb1 hat1
      go_wp2
      exact ⟨⟨j + 1, L ++ [y], by omega, by go_num, HL1x.out, HLVx.out, O1.out, B1.out⟩, by simp [intOf]; omega⟩
    · obtain rfl : j = L1.length := by omega
      clear hb hz
      go_wp2
      clear a1 a0 b0
      go_loopw [7, 10] (fun v i wr => ∃ (k : Nat) (M : List Int), k ≤ L2.length ∧ i = .int .i64 k ∧ M.length = L1.length + k ∧ M = li ((jn ns).take (1 + k)) ∧ Ow cI 2 w1.heap.size wr v M ∧ Below w1.heap.size w1 wr) (fun _ i _ => L2.length - (intOf i).toNat)
      case atStart => exact ⟨0, L, Nat.zero_le _, rfl, HLL.out, by rw [HLV.out, HL1.out, HJ1.out]; exact HJ1.out.symm, OA.out, HB.out⟩
      case round =>
        clear OA HB HLL
        obtain ⟨k, M, hk, rfl, hl, hmv, ho, hb⟩ := hrel
        have HMV := Lib.hid hmv
        clear hmv
        obtain ⟨w3, hw3⟩ : ∃ W, W = wr := ⟨_, rfl⟩
        subst hw3
        obtain ⟨A3, c3, rfl⟩ := ho.opn
        have HLL := Lib.hid hl
        have HMB : M.length ≤ 2000 := by omega
        have OA := Lib.hid ho
        have HB := Lib.hid hb
        have hz := hb.size
        clear hl ho
        generalize hML : M.length = ml at *
        have HML := Lib.hid hML
        clear hML
        have b1 : w3.cell? ⟨w.heap.size + 1, 1, none⟩ = some (.slice A1 L2.length c1) := (T2.out.below hb).2 1
        by_cases hlt : k < L2.length
        · obtain ⟨b, o, rfl, hbl, hcx⟩ := (HY.out.below hb).atI (k := k) hlt
          have a0 : w3.cell? ⟨w.heap.size, 0, none⟩ = some (.int .i64 1) := (T1.out.below hb).2 0
          have a0s : w.heap.size < w3.heap.size := (T1.out.below hb).1
          have b1s : w.heap.size + 1 < w3.heap.size := (T2.out.below hb).1
          have HYk := Lib.hid (HY1.out k hlt)
          generalize L2[k] = x at *
          clear hb
          go_upto_region 12 with fail
          have hI := (Below.refl w3.heap.size w3).drew
          refine wp_region_sched (Below w3.heap.size w3) 11 [0, 1, 2, 3, 4, 5, 6, 7, 8, 9] [0, 1, 2, 3, 4, 5, 6, 7, 8, 9, 10] (by kernel_rfl) (by kernel_rfl) hI ?_
          repeat
            apply wpSched_q rfl rfl
            case h =>
              intro w' hI K hK
              have b1' := (hI.cell (p := ⟨w.heap.size + 1, 1, none⟩) b1s).trans b1
              have a0' := (hI.cell (p := ⟨w.heap.size, 0, none⟩) a0s).trans a0
              have hcx' := (hI.cell (p := ⟨b, o + k, none⟩) hbl).trans hcx
              simp only [quietV, stillV]
              go_simp
              exact hK
            go_simp
          refine wpSched_r rfl rfl ?_ hI
          intro K hK _
          go_simp
          obtain ⟨y, hy⟩ : ∃ y, IntKind.i64.wrap (x * 2 ^ min (IntKind.u64.wrap 1).toNat 64) = y := ⟨_, rfl⟩
          rw [hy] at HYk ⊢
          clear hy a0 b1 hcx a0s b1s
          refine hK _ _ (by first | exact hI.alloc hI.size _ | exact (hI.alloc hI.size _).drew | exact ((Below.refl _ _).alloc (Nat.le_refl _) _).drew) ?_
          clear hK K
          refine wpSched_nil ?_
          try simp only [List.drop_succ_cons, List.drop_zero, List.drop_nil]
          have OA3 := Lib.hid (OA.out.below hI)
          have HB3 := Lib.hid (bthen HB.out hI)
          clear hI OA HB hz
          change wpList _ _ _ _ _ (World.alloc (World.drew w3) _)
          have hz := HB3.out.size
          refine ap_one (K := cI) (World.drew w3) ty_int64 rfl _ _ rfl (B := w1.heap.size) (v := .slice A3 ml c3) (xs := M) rfl OA3.out (y : Int) rfl rfl (by have := HML.out; omega) hz ?_
          intro v1 w7 ho1 hg1 hb1 hat1
          have O1 := Lib.hid ho1
          have B1 := Lib.hid (HB3.out.trans (hb1.mono (by omega)))
          have HL1x : Hid ((M ++ [y]).length = L1.length + (k + 1)) := Lib.hid (by rw [List.length_append, HML.out, HLL.out]; rfl)
          have HMVx : Hid (M ++ [y] = li ((jn ns).take (1 + (k + 1)))) := Lib.hid (by rw [HMV.out, HYk.out, HM.out k hlt])
          clear ho1 hg1 hb1 hat1
          go_wp2
          exact ⟨⟨k + 1, M ++ [y], by omega, by go_num, HL1x.out, HMVx.out, O1.out, B1.out⟩, by simp [intOf]; omega⟩
        · obtain rfl : k = L2.length := by omega
          have hk1 := HK.out.lt
          have HK1 := Lib.hid (HK.out.below hb hk1)
          have hzw := A.out.size
          clear hb
          go_wp2_with fail
          refine (HMk.out _ _ _ OA.out.sl (by rw [HML.out]; omega)).mono ?_
          rintro e w4 ⟨A4, c4, rfl, ho, hb⟩
          have r := HK1.out.below hb HK1.out.lt
          have rc := r.cell
          have rf := r.frozen
          have rl := r.lt
          have B2 := Lib.hid (bthen HB.out hb)
          have HO2 := Lib.hid ho
          have EL : Hid (M.length = (jn ns).length) := Lib.hid (by rw [HML.out, HLL.out, HL1.out, HJ.out.2])
          have EM : Hid (M = li (jn ns)) := Lib.hid (by rw [HMV.out, HJ.out.1])
          clear hb HK1 ho r b1
          go_wp2
          refine bodyPost_ret (v := .agg #[.int .i64 (M.length : Int), .slice A4 M.length c4]) (by simp [results, Tryz.results173, go_sem, rc, rf, rl]) rfl ⟨_, by rw [← EL.out], ?_, ?_⟩
          · have hp : w.heap.size + 2 < w3.heap.size := by omega
            rw [← EM.out]
            exact ((HO2.out.setBelow hp _).setBelow hp _).mono (by omega)
          · exact ((A.out.trans (B2.out.mono hzw)).setCell (by show w.heap.size ≤ w.heap.size + 1 + 1; omega) _).setCell (by show w.heap.size ≤ w.heap.size + 1 + 1; omega) _
set_option maxRecDepth 100000 in
set_option maxHeartbeats 4000000 in
theorem spec_l16SomeX (w0 : World) (v : Value) (xs : List (Fin 256)) (w : World) (g : Nat) (size : Nat) (S : Src 95 w0 v xs w g) (h8 : size ≤ 8) :
    Calls Tryz.prog 118 #[.pointer (some ⟨g, 0, none⟩), .int .i64 (size : Int)] w fun e w' => ∃ u ns, e = .returned (.agg #[.int .i64 (ns.length : Int), u]) ∧ ns.length ≤ size ∧ RelN ns ∧ Rfl ns ∧ Ow cI 2 w.heap.size w' u (li ns) ∧ Src 95 w0 v xs w' g ∧ w.grownBy w' (some g) := by
  have D := Lib.hid (Dg.start S)
  clear S
  go_enter Tryz.func118, Tryz.ntmps118
  have R0 := Blk.new w 42 #[.int .i64 0, .slice none 0 0]
  have HB : Hid (w.heap.size ≤ w.heap.size + 1) := Lib.hid (Nat.le_succ _)
  go_upto_region 1 with fail
  have hb := below_alloc' w (.cells #[.int .i64 0, .slice none 0 0] 42)
  have R := Lib.hid R0
  clear R0
  replace D := Lib.hid (D.out.below hb)
  clear hb
  generalize World.alloc w _ = W at *
  go_wp2_with fail
  refine (spec_l01Next _ _ _ _ _ ((size : Int) + 1) D.out.S (by omega) (by omega)).mono ?_
  rintro e w1 ⟨n, rfl, hn, hS, hg, -⟩
  replace R := Lib.hid (D.out.blk R.out (Nat.le_refl _) hg)
  replace D := Lib.hid (D.out.call hS hg)
  clear hS hg
  have hn : n ≤ size := by omega
  go_upto_region 3 with fail
  have hb := below_alloc' w1 (.cells #[] 2)
  have OA : Hid (Ow cI 2 (w.heap.size + 1) (World.alloc w1 (.cells #[] 2)) (.slice (some ⟨w1.heap.size, 0, none⟩) 0 0) (li [])) := Lib.hid (Ow.lit [] rfl rfl R.out.lt)
  replace R := Lib.hid (R.out.below hb R.out.lt)
  replace D := Lib.hid (D.out.below hb)
  clear hb
  generalize World.alloc w1 _ = W2 at *
  go_wp2_with fail
  refine (spec_l01Next _ _ _ _ _ 3 D.out.S (by decide) (by decide)).mono ?_
  rintro e w2 ⟨thin, rfl, hthin, hS, hg, -⟩
  replace OA := Lib.hid (D.out.passB OA.out HB.out hg)
  replace R := Lib.hid (D.out.blk R.out (Nat.le_refl _) hg)
  replace D := Lib.hid (D.out.call hS hg)
  clear hS hg
  obtain ⟨F, hF⟩ : ∃ F, F = 2 ^ n - 1 := ⟨_, rfl⟩
  have hp2 : 2 ^ n ≤ 256 := two_pow_256 (by omega)
  have hp1 : 0 < 2 ^ n := Nat.pow_pos (by decide)
  obtain ⟨P, hP⟩ : ∃ P, P = 2 ^ n := ⟨_, rfl⟩
  rw [← hP] at hp1 hp2 hF
  have hFP : F + 1 = P := by omega
  have HF := Lib.hid (show F = 2 ^ n - 1 by rw [hF, hP])
  have HP := Lib.hid hP
  clear hF hP
  have hn8 : n ≤ 8 := by omega
  go_wp2
  go_loopw [6, 8] (fun a i wr => ∃ (j : Nat) (ms : List Nat), j ≤ n ∧ i = .int .i64 (j : Int) ∧ ms.length = j ∧ (∀ m ∈ ms, m < P) ∧ Ow cI 2 (w.heap.size + 1) wr a (li ms) ∧ Dg w0 v xs g w wr ∧ Blk wr w.heap.size 42 #[.int .i64 0, .slice none 0 0]) (fun _ i _ => n - (intOf i).toNat)
  case atStart => exact ⟨0, [], Nat.zero_le _, rfl, rfl, by simp, OA.out, D.out, R.out⟩
  case round =>
    clear OA D R
    obtain ⟨j, ms, hj, rfl, hml, hms, OA, D, R⟩ := hrel
    obtain ⟨Aa, ca, rfl⟩ := OA.opn
    rw [li_length, hml] at OA ⊢
    replace OA := Lib.hid OA
    replace D := Lib.hid D
    replace R := Lib.hid R
    replace hms := Lib.hid hms
    by_cases hlt : j < n
    · have HML := Lib.hid hml
      clear hml
      go_wp2_with fail
      refine (spec_l01Full' n F HF.out _ (by omega)).mono ?_
      rintro e w3 ⟨rfl, rfl⟩
      go_wp2_with fail
      refine (spec_l01Next _ _ _ _ _ ((F : Int) + 1) D.out.S (by omega) (by omega)).mono ?_
      rintro e w4 ⟨m0, rfl, hm0, hS, hg, -⟩
      replace OA := Lib.hid (D.out.passB OA.out HB.out hg)
      replace R := Lib.hid (D.out.blk R.out (Nat.le_refl _) hg)
      replace D := Lib.hid (D.out.call hS hg)
      clear hS hg
      have hm0' : m0 < P := by omega
      clear hm0
      obtain ⟨F1, hF1⟩ : ∃ F1, F1 = 2 ^ (j + 1) - 1 := ⟨_, rfl⟩
      have hF1b : F1 < 9223372036854775808 := by have := two_pow_lt (show j + 1 ≤ 62 by omega); omega
      have HF1 := Lib.hid hF1
      clear hF1
      have HE := Lib.hid (i64_andNot_nat m0 F1 (by omega) hF1b)
      have hA : andnot m0 F1 < P := by rw [HP.out]; exact andnot_lt (by rw [← HP.out]; exact hm0')
      generalize andnot m0 F1 = m9 at *
      go_wp2_with fail
      refine (show Calls Tryz.prog 86 #[.int .i64 ((j : Int) + 1)] w4 _ from spec_l01Full' (j + 1) F1 HF1.out _ (by omega)).mono ?_
      rintro e w88 ⟨rfl, rfl⟩
      clear hm0' hF1b
      go_wp2
      rw [HE.out]
      go_loopw [9, 10] (fun a i wq => ∃ (t m : Nat), i = .int .i64 (t : Int) ∧ t ≤ thin ∧ a = .int .i64 (m : Int) ∧ m < P ∧ Ow cI 2 (w.heap.size + 1) wq (.slice Aa j ca) (li ms) ∧ Dg w0 v xs g w wq ∧ Blk wq w.heap.size 42 #[.int .i64 0, .slice none 0 0]) (fun _ i _ => thin - (intOf i).toNat)
      case atStart => exact ⟨0, m9, rfl, Nat.zero_le _, rfl, hA, OA.out, D.out, R.out⟩
      case round =>
        clear OA D R hA HE
        obtain ⟨t, m, rfl, ht, rfl, hm, OA, D, R⟩ := hrel
        replace OA := Lib.hid OA
        replace D := Lib.hid D
        replace R := Lib.hid R
        by_cases htt : t < thin
        · skip
          go_wp2_with fail
          refine (spec_l01Full' n F HF.out _ (by omega)).mono ?_
          rintro e w5 ⟨rfl, rfl⟩
          go_wp2_with fail
          refine (spec_l01Next _ _ _ _ _ ((F : Int) + 1) D.out.S (by omega) (by omega)).mono ?_
          rintro e w6 ⟨m1, rfl, hm1, hS, hg, -⟩
          replace OA := Lib.hid (D.out.passB OA.out HB.out hg)
          replace R := Lib.hid (D.out.blk R.out (Nat.le_refl _) hg)
          replace D := Lib.hid (D.out.call hS hg)
          clear hS hg
          have eA := i64_and_nat m m1 (by omega) (by omega)
          have hA : m &&& m1 < P := Nat.lt_of_le_of_lt Nat.and_le_left hm
          have HE := Lib.hid eA
          have HA := Lib.hid hA
          clear eA hA hm1
          generalize m &&& m1 = m2 at *
          go_wp2
          rw [HE.out]
          exact ⟨⟨t + 1, m2, by go_num, by omega, rfl, HA.out, OA.out, D.out, R.out⟩, by simp [intOf]; omega⟩
        · skip
          have bsz : w.heap.size + 1 ≤ _ := R.out.lt
          go_wp2_with (at_builtin; refine stopHere ?_)
          refine goHere ?_
          refine ap_one (K := cI) _ ty_int64 rfl _ _ rfl (B := w.heap.size + 1) (v := .slice Aa j ca) (xs := li ms) rfl OA.out (m : Int) rfl rfl (by rw [li_length, HML.out]; omega) bsz ?_
          intro v1 w9 ho1 hg1 hb1 hat1
          rw [← li_snoc] at ho1
          have D9 := Lib.hid (D.out.grown (grown_alloc _ hg1) (fun q e => by have := OA.out.block q e; omega))
          have R9 := Lib.hid (R.out.grown (grown_alloc _ hg1) (fun e => by have := OA.out.block _ e.symm; omega))
          have O9 := Lib.hid ho1
          obtain ⟨A9, c9, hv9⟩ := ho1.opn
          rw [li_length, List.length_append, List.length_singleton, HML.out] at hv9
          subst hv9
          clear ho1 hg1 hb1 hat1
          have HMM : Hid ((ms ++ [m]).length = j + 1 ∧ ∀ y ∈ ms ++ [m], y < P) := Lib.hid ⟨by rw [List.length_append, HML.out]; rfl, fun y hy => (List.mem_append.1 hy).elim (hms.out y) (fun h => by rw [List.mem_singleton.1 h]; exact hm)⟩
          go_wp2
          exact ⟨⟨j + 1, ms ++ [m], by omega, by go_num, HMM.out.1, HMM.out.2, O9.out, D9.out, R9.out⟩, by simp [intOf]; omega⟩
    · obtain rfl : j = n := by omega
      have hr : RelN ms := ⟨by omega, by rw [hml, ← HP.out]; exact hms.out⟩
      have HR := Lib.hid hr
      clear hr hms
      go_wp2_with fail
      refine (spec_l01Reflexive _ ms _ OA.out.sl HR.out).mono ?_
      rintro e w7 ⟨u2, rfl, OC, hb⟩
      replace OC := Lib.hid (OC.mono (R.out.lt))
      replace OA := Lib.hid (OA.out.below hb)
      replace R := Lib.hid (R.out.below hb R.out.lt)
      replace D := Lib.hid (D.out.below hb)
      clear hb
      have hml3 : (rfx ms).length = j := by rw [rfx_length, hml]
      have HRC := Lib.hid (rfx_rel HR.out)
      have HRF := Lib.hid (Rfl_clo ms)
      generalize rfx ms = mc at *
      go_wp2_with fail
      refine (spec_l01Closure _ mc _ OC.out.sl HRC.out).mono ?_
      rintro e w8 ⟨u3, rfl, OD, hb⟩
      replace OD := Lib.hid (OD.mono (R.out.lt))
      replace OA := Lib.hid (OA.out.below hb)
      replace OC := Lib.hid (OC.out.below hb)
      replace R := Lib.hid (R.out.below hb R.out.lt)
      replace D := Lib.hid (D.out.below hb)
      clear hb
      have hml4 : (clo mc mc.length).length = j := by rw [clo_length, hml3]
      have HRD := Lib.hid (clo_rel HRC.out)
      generalize clo mc mc.length = md at *
      have HRD2 := Lib.hid (RelM_of_N HRD.out)
      go_wp2_with fail
      refine (spec_l01Next _ _ _ _ _ 2 D.out.S (by decide) (by decide)).mono ?_
      rintro e w9 ⟨k2, rfl, hk2, hS, hg, -⟩
      replace OA := Lib.hid (D.out.passB OA.out HB.out hg)
      replace OC := Lib.hid (D.out.passB OC.out HB.out hg)
      replace OD := Lib.hid (D.out.passB OD.out HB.out hg)
      replace R := Lib.hid (D.out.blk R.out (Nat.le_refl _) hg)
      replace D := Lib.hid (D.out.call hS hg)
      clear hS hg
      cases t0 : ((k2 : Int) == 0)
      · clear hk2
        go_wp2_with fail
        refine (spec_l16ShuffleX _ _ _ _ _ j D.out.S (by omega)).mono ?_
        rintro e w10 ⟨u4, os, rfl, hpm, OS, hS, hg⟩
        have hol := hpm.l
        have hos := hpm.b
        have HPM : Hid (Prm md.length os) := Lib.hid (by rw [hml4]; exact hpm)
        clear hpm
        replace OS := Lib.hid (OS.mono (R.out.lt))
        replace OA := Lib.hid (D.out.passB OA.out HB.out hg)
        replace OC := Lib.hid (D.out.passB OC.out HB.out hg)
        replace OD := Lib.hid (D.out.passB OD.out HB.out hg)
        replace R := Lib.hid (D.out.blk R.out (Nat.le_refl _) hg)
        replace D := Lib.hid (D.out.call hS hg)
        clear hS hg
        have HOS := Lib.hid (show ∀ x ∈ os, x < md.length by rw [hml4]; exact hos)
        clear hos
        go_wp2_with fail
        refine (spec_l05RenumberM md os _ _ _ OD.out.sl OS.out.sl HRD2.out HOS.out (by omega)).mono ?_
        rintro e w11 ⟨A5, c5, rfl, OR, hb⟩
        have hl5 : (rnM md os).length = j := by rw [rnM_length, hol]
        have HFF := Lib.hid (Rfl_ren HRF.out HPM.out)
        have HFR := Lib.hid (RelN_of_M (rnM_rel md (os := os) (by omega)) (by omega))
        generalize rnM md os = N5 at *
        replace OR := Lib.hid (OR.mono (R.out.lt))
        replace OA := Lib.hid (OA.out.below hb)
        replace OC := Lib.hid (OC.out.below hb)
        replace OD := Lib.hid (OD.out.below hb)
        replace OS := Lib.hid (OS.out.below hb)
        replace R := Lib.hid (R.out.below hb R.out.lt)
        replace D := Lib.hid (D.out.below hb)
        clear hb
        have HL5 := Lib.hid (show N5.length ≤ size by omega)
        have HLI := Lib.hid (li_length N5)
        rw [show md.length = N5.length by omega] at OR ⊢
        clear hl5 hol
        go_wp2_with fail
        refine (spec_l16Make _ (li N5) _ OR.out.sl (by rw [HLI.out]; have := HL5.out; omega)).mono ?_
        rintro e w12 ⟨A6, c6, rfl, OF, hb⟩
        replace OF := Lib.hid (OF.mono (R.out.lt))
        replace OA := Lib.hid (OA.out.below hb)
        replace OC := Lib.hid (OC.out.below hb)
        replace OD := Lib.hid (OD.out.below hb)
        replace OS := Lib.hid (OS.out.below hb)
        replace OR := Lib.hid (OR.out.below hb)
        replace R := Lib.hid (R.out.below hb R.out.lt)
        replace D := Lib.hid (D.out.below hb)
        clear hb
        have kr := R.out.cell
        have fr := R.out.frozen
        have lr := R.out.lt
        rw [HLI.out] at OF ⊢
        go_wp2
        refine bodyPost_ret (v := .agg #[.int .i64 (N5.length : Int), .slice A6 N5.length c6]) (by simp [results, Tryz.results118, go_sem, kr, fr, lr]) rfl ⟨_, N5, rfl, HL5.out, HFR.out, HFF.out, ?_, ?_, ?_⟩
        · exact ((OF.out.setBelow (p := ⟨w.heap.size, 0, none⟩) (Nat.lt_succ_self _) _).setBelow (p := ⟨w.heap.size, 1, none⟩) (Nat.lt_succ_self _) _).mono HB.out
        · exact ((D.out.set (p := ⟨w.heap.size, 0, none⟩) (Nat.le_refl _) _).set (p := ⟨w.heap.size, 1, none⟩) (Nat.le_refl _) _).S
        · exact ((D.out.set (p := ⟨w.heap.size, 0, none⟩) (Nat.le_refl _) _).set (p := ⟨w.heap.size, 1, none⟩) (Nat.le_refl _) _).gr
      · clear hk2
        go_wp2_with fail
        refine (spec_l16Make _ (li md) _ OD.out.sl (by rw [li_length]; omega)).mono ?_
        rintro e w13 ⟨A6, c6, rfl, OF, hb⟩
        replace OF := Lib.hid (OF.mono (R.out.lt))
        replace OA := Lib.hid (OA.out.below hb)
        replace OC := Lib.hid (OC.out.below hb)
        replace OD := Lib.hid (OD.out.below hb)
        replace R := Lib.hid (R.out.below hb R.out.lt)
        replace D := Lib.hid (D.out.below hb)
        clear hb
        have kr := R.out.cell
        have fr := R.out.frozen
        have lr := R.out.lt
        rw [li_length] at OF ⊢
        have HML := Lib.hid hml4
        clear hml4
        go_wp2
        refine bodyPost_ret (v := .agg #[.int .i64 (md.length : Int), .slice A6 md.length c6]) (by simp [results, Tryz.results118, go_sem, kr, fr, lr]) rfl ⟨_, md, rfl, by have := HML.out; omega, HRD.out, HRF.out, ?_, ?_, ?_⟩
        · exact ((OF.out.setBelow (p := ⟨w.heap.size, 0, none⟩) (Nat.lt_succ_self _) _).setBelow (p := ⟨w.heap.size, 1, none⟩) (Nat.lt_succ_self _) _).mono HB.out
        · exact ((D.out.set (p := ⟨w.heap.size, 0, none⟩) (Nat.le_refl _) _).set (p := ⟨w.heap.size, 1, none⟩) (Nat.le_refl _) _).S
        · exact ((D.out.set (p := ⟨w.heap.size, 0, none⟩) (Nat.le_refl _) _).set (p := ⟨w.heap.size, 1, none⟩) (Nat.le_refl _) _).gr
set_option maxRecDepth 100000 in
set_option maxHeartbeats 4000000 in
theorem spec_l16RootedX (w0 : World) (v : Value) (xs : List (Fin 256)) (w : World) (g : Nat) (size : Nat) (S : Src 95 w0 v xs w g) (h8 : size ≤ 8) (h1 : 1 ≤ size) :
    Calls Tryz.prog 119 #[.pointer (some ⟨g, 0, none⟩), .int .i64 (size : Int)] w fun e w' => ∃ u ns, e = .returned (.agg #[.int .i64 (ns.length : Int), u]) ∧ ns.length ≤ size ∧ RelN ns ∧ Rfl ns ∧ Ow cI 2 w.heap.size w' u (li ns) ∧ Src 95 w0 v xs w' g ∧ w.grownBy w' (some g) := by
  obtain ⟨k, rfl⟩ : ∃ k, size = k + 1 := ⟨size - 1, by omega⟩
  have D := Lib.hid (Dg.start S)
  clear S
  go_enter Tryz.func119, Tryz.ntmps119
  have R0 := Blk.new w 42 #[.int .i64 0, .slice none 0 0]
  have HB : Hid (w.heap.size ≤ w.heap.size + 1) := Lib.hid (Nat.le_succ _)
  go_upto_region 1 with fail
  have hb := below_alloc' w (.cells #[.int .i64 0, .slice none 0 0] 42)
  have R := Lib.hid R0
  clear R0
  replace D := Lib.hid (D.out.below hb)
  clear hb
  generalize World.alloc w _ = W at *
  go_wp2_with fail
  have hb := below_alloc' W (.cells #[.int .i64 1] 2)
  have OL : Hid (Ow cI 2 (w.heap.size + 1) (World.alloc W (.cells #[.int .i64 1] 2)) (.slice (some ⟨W.heap.size, 0, none⟩) 1 1) [1]) := Lib.hid (Ow.lit [1] rfl rfl R.out.lt)
  replace R := Lib.hid (R.out.below hb R.out.lt)
  replace D := Lib.hid (D.out.below hb)
  clear hb
  generalize World.alloc W _ = Wl at *
  refine (spec_l16Make _ [1] _ OL.out.sl (by simp)).mono ?_
  rintro e w1 ⟨A3, c3, rfl, OP, hb⟩
  replace OP := Lib.hid (OP.mono (R.out.lt))
  replace OL := Lib.hid (OL.out.below hb)
  replace R := Lib.hid (R.out.below hb R.out.lt)
  replace D := Lib.hid (D.out.below hb)
  clear hb
  go_wp2_with fail
  first | rw [show (((k + 1 : Nat) : Int) - 1) = (k : Int) by omega] | rw [show ((k : Int) + 1 - 1) = (k : Int) by omega] | skip
  refine (spec_l16SomeX _ _ _ _ _ k D.out.S (by omega)).mono ?_
  rintro e w2 ⟨u, ns, rfl, hl, hrn, hrf, O, hS, hg⟩
  have HJR := Lib.hid (jn_rel hrn (by omega))
  have HJF := Lib.hid (jn_rfl hrf)
  have HRN := Lib.hid hrn
  have HJL := Lib.hid (jn_length ns)
  clear hrn hrf
  replace O := Lib.hid (O.mono (R.out.lt))
  replace OL := Lib.hid (D.out.passB OL.out HB.out hg)
  replace OP := Lib.hid (D.out.passB OP.out HB.out hg)
  replace R := Lib.hid (D.out.blk R.out (Nat.le_refl _) hg)
  replace D := Lib.hid (D.out.call hS hg)
  clear hS hg
  obtain ⟨A4, c4, rfl⟩ := O.out.opn
  go_wp2_with fail
  refine (spec_l16JoinX _ _ ns _ OP.out.sl O.out.sl HRN.out (by omega)).mono ?_
  rintro e w3 ⟨u5, rfl, OJ, hb⟩
  replace OJ := Lib.hid (OJ.mono (R.out.lt))
  replace OL := Lib.hid (OL.out.below hb)
  replace OP := Lib.hid (OP.out.below hb)
  replace O := Lib.hid (O.out.below hb)
  replace R := Lib.hid (R.out.below hb R.out.lt)
  replace D := Lib.hid (D.out.below hb)
  clear hb
  have HL6 : Hid ((jn ns).length ≤ k + 1) := Lib.hid (by rw [HJL.out]; omega)
  have HLI := Lib.hid (li_length (jn ns))
  generalize jn ns = N5 at *
  obtain ⟨A6, c6, rfl⟩ := OJ.out.opn
  rw [HLI.out] at OJ ⊢
  have kr := R.out.cell
  have fr := R.out.frozen
  have lr := R.out.lt
  go_wp2
  refine bodyPost_ret (v := .agg #[.int .i64 (N5.length : Int), .slice A6 N5.length c6]) (by simp [results, Tryz.results119, go_sem, kr, fr, lr]) rfl ⟨_, N5, rfl, HL6.out, HJR.out, HJF.out, ?_, ?_, ?_⟩
  · exact ((OJ.out.setBelow (p := ⟨w.heap.size, 0, none⟩) (Nat.lt_succ_self _) _).setBelow (p := ⟨w.heap.size, 1, none⟩) (Nat.lt_succ_self _) _).mono HB.out
  · exact ((D.out.set (p := ⟨w.heap.size, 0, none⟩) (Nat.le_refl _) _).set (p := ⟨w.heap.size, 1, none⟩) (Nat.le_refl _) _).S
  · exact ((D.out.set (p := ⟨w.heap.size, 0, none⟩) (Nat.le_refl _) _).set (p := ⟨w.heap.size, 1, none⟩) (Nat.le_refl _) _).gr
def upsTo (ns : List Nat) (j : Nat) : List Nat := (List.range j).filter fun m => decide (img ns m = m)
theorem upsTo_succ (ns : List Nat) (j : Nat) : upsTo ns (j + 1) = if img ns j = j then upsTo ns j ++ [j] else upsTo ns j := by
  unfold upsTo
  rw [List.range_succ, List.filter_append]
  by_cases h : img ns j = j
  · simp [h]
  · simp [h]
theorem upsTo_len (ns : List Nat) (j : Nat) : (upsTo ns j).length ≤ j := Nat.le_trans (List.length_filter_le _ _) (by rw [List.length_range]; exact Nat.le_refl _)
set_option maxRecDepth 100000 in
set_option maxHeartbeats 1000000 in
theorem spec_l16UpsetsX (v : Value) (ns : List Nat) (w : World) (h : Sl cI w v (li ns)) (hr : RelN ns) :
    Calls Tryz.prog 123 #[.agg #[.int .i64 (ns.length : Int), v]] w fun e w' => ∃ z, e = .returned z ∧ Ow cI 2 w.heap.size w' z (li (ups ns)) ∧ Below w.heap.size w w' := by
  obtain ⟨A0, c0, rfl⟩ := h.opn
  have h8 := hr.1
  have HL := Lib.hid (li_length ns)
  rw [HL.out] at h ⊢
  have HX := Lib.hid h
  have A := Lib.hid (Below.refl w.heap.size w)
  obtain ⟨F, hF⟩ : ∃ F, F = 2 ^ ns.length - 1 := ⟨_, rfl⟩
  have hp2 := two_pow_256 h8
  have hp1 : 0 < 2 ^ ns.length := Nat.pow_pos (by decide)
  have hF256 : F < 256 := by omega
  have HFu := Lib.hid (fun W => spec_l01Full' ns.length F hF W (by omega))
  have HI := Lib.hid (fun (k : Nat) W (hk : k < 256) (hW : Sl cI W (.slice A0 ns.length c0) (li ns)) => spec_l01Image _ ns k W hW hr hk)
  have HU0 : Hid (upsTo ns 0 = []) := Lib.hid rfl
  have HUS := Lib.hid (fun j => upsTo_succ ns j)
  have HUL := Lib.hid (upsTo_len ns)
  have HUE : Hid (upsTo ns (F + 1) = ups ns) := Lib.hid (by rw [hF, show 2 ^ ns.length - 1 + 1 = 2 ^ ns.length by omega]; rfl)
  have HIl := Lib.hid (fun k => Nat.lt_of_lt_of_le (show img ns k < 2 ^ ns.length from imgTo_lt hr.2 k ns.length) hp2)
  clear h hr hF hp2 hp1
  go_enter Tryz.func123, Tryz.ntmps123
  go_upto_region 1 with fail
  have hb := below_alloc' w (.cells #[.int .i64 ns.length, .slice A0 ns.length c0] 42)
  have T1 := Lib.hid (Bk.new w #[.int .i64 ns.length, .slice A0 ns.length c0] 42)
  replace HX := Lib.hid (HX.out.below hb)
  replace A := Lib.hid (bthen A.out hb)
  clear hb
  generalize World.alloc w _ = w1 at *
  go_wp2
  go_loopw [3, 4] (fun v i wr => ∃ (j : Nat) (L : List Int), j ≤ F + 1 ∧ i = .int .i64 j ∧ L.length ≤ j ∧ L = li (upsTo ns j) ∧ Ow cI 2 w1.heap.size wr v L ∧ Below w1.heap.size w1 wr) (fun _ i _ => F + 1 - (intOf i).toNat)
  case atStart => exact ⟨0, [], Nat.zero_le _, rfl, Nat.le_refl _, by rw [HU0.out]; rfl, Ow.lit (K := cI) [] rfl rfl (Nat.le_refl _), below_alloc' _ _⟩
  case round =>
    obtain ⟨j, L, hj, rfl, hl, hl1, ho, hb⟩ := hrel
    obtain ⟨w2, hw2⟩ : ∃ W, W = wr := ⟨_, rfl⟩
    subst hw2
    obtain ⟨A2, c2, rfl⟩ := ho.opn
    have a0 : w2.cell? ⟨w.heap.size, 0, none⟩ = some (.int .i64 (ns.length : Int)) := (T1.out.below hb).2 0
    have a1 : w2.cell? ⟨w.heap.size, 1, none⟩ = some (.slice A0 ns.length c0) := (T1.out.below hb).2 1
    have OA := Lib.hid ho
    have HB := Lib.hid hb
    have HL1 := Lib.hid hl1
    have hz := hb.size
    clear ho hb hl1
    go_wp2_with fail
    refine (HFu.out _).mono ?_
    rintro e _ ⟨rfl, rfl⟩
    by_cases hlt : j ≤ F
    · have i4 : (j : Int) ≤ (F : Int) := by omega
      have hIm := HI.out j w2 (by omega) (HX.out.below HB.out)
      have hIl := HIl.out j
      have HIm := Lib.hid hIm
      have HSJ := Lib.hid (HUS.out j)
      clear hIm
      generalize img ns j = r at *
      go_wp2_with fail
      refine HIm.out.mono ?_
      rintro e _ ⟨rfl, rfl⟩
      by_cases hd : r = j
      · have hd1 : ((r : Int) == (j : Int)) = true := by rw [hd]; simp
        clear a0 a1
        go_wp2_with (at_builtin; refine stopHere ?_)
        refine goHere ?_
        refine ap_one (K := cI) _ ty_int64 rfl _ _ rfl (B := w1.heap.size) (v := .slice A2 L.length c2) (xs := L) rfl OA.out (j : Int) rfl rfl (by omega) hz ?_
        intro v1 w7 ho1 hg1 hb1 hat1
        have O1 := Lib.hid ho1
        have B1 := Lib.hid (HB.out.trans hb1)
        have HN : Hid ((L ++ [(j : Int)]).length ≤ j + 1 ∧ L ++ [(j : Int)] = li (upsTo ns (j + 1))) := Lib.hid ⟨by rw [List.length_append, List.length_singleton]; omega, by rw [HSJ.out, if_pos hd, li_snoc, HL1.out]⟩
        clear ho1 hg1 hb1 hat1
        go_wp2
        exact ⟨⟨j + 1, L ++ [(j : Int)], by omega, by go_num, HN.out.1, HN.out.2, O1.out, B1.out⟩, by simp [intOf]; omega⟩
      · have hd1 : ((r : Int) == (j : Int)) = false := beq_eq_false_iff_ne.2 (by omega)
        have HN : Hid (L = li (upsTo ns (j + 1))) := Lib.hid (by rw [HSJ.out, if_neg hd]; exact HL1.out)
        clear a0 a1
        go_wp2
        exact ⟨⟨j + 1, L, by omega, by go_num, by omega, HN.out, OA.out, HB.out⟩, by simp [intOf]; omega⟩
    · obtain rfl : j = F + 1 := by omega
      have i4 : ¬ ((F + 1 : Nat) : Int) ≤ (F : Int) := by omega
      have HLE := Lib.hid (HL1.out.trans (by rw [HUE.out]))
      clear a0 a1
      rw [HLE.out] at OA ⊢
      go_wp2
      go_ret
      exact ⟨_, rfl, OA.out.mono A.out.size, A.out.trans (HB.out.mono A.out.size)⟩
end Go.Proofs.YtgkogfjifcfkoaaGreat

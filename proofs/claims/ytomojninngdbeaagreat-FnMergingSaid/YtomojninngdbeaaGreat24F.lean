/- Contracts of MergeAlike of the reference. Written by gen24F2.py. -/
import Derived.Test.YtomojninngdbeaaGreat24E
import Derived.Test.YtomojninngdbeaaGreat24B
import Derived.Test.YtomojninngdbeaaGreatMG
namespace Go.Proofs.YtomojninngdbeaaGreat
open Go.RowKit
set_option linter.unusedVariables false
set_option linter.unusedSimpArgs false
set_option maxRecDepth 100000 in
theorem spec_MergeAlike_bad (n : Int) (v u : Value) (xs V : List Int) (w : World) (h : Sl cI w v xs) (h' : Sl cI w u V) (hl : xs.length ≤ 1073741824) (hv : vlOk n xs V = false) :
    Calls Tryz.prog 7 #[.agg #[.int .i64 n, v], u] w fun e w' => e = .returned (.tuple #[.agg #[.int .i64 0, .slice none 0 0], .slice none 0 0, .slice none 0 0, .int .i64 1]) ∧ Below w.heap.size w w' := by
  obtain ⟨A0, c0, rfl⟩ := h.opn
  obtain ⟨A1, c1, rfl⟩ := h'.opn
  have A := Lib.hid (Below.refl w.heap.size w)
  have HX := Lib.hid h
  have HV := Lib.hid h'
  have HP := Lib.hid (fun W (hW : Sl cI W (.slice A0 xs.length c0) xs) (hV : Sl cI W (.slice A1 V.length c1) V) => hv ▸ spec_IsValuation n _ _ xs V W hW hV hl)
  clear h h' hl hv
  go_enter Tryz.func7, Tryz.ntmps7
  go_upto_region 1 with fail
  have hb := bthen (below_alloc' w (.cells #[.int .i64 n, .slice A0 xs.length c0] 26)) (below_alloc' (World.alloc w (.cells #[.int .i64 n, .slice A0 xs.length c0] 26)) (.cells #[.int .i64 0, .slice none 0 0] 26))
  have T1 := Lib.hid (Bk.new1 w #[.int .i64 n, .slice A0 xs.length c0] 26 (.cells #[.int .i64 0, .slice none 0 0] 26))
  have HK : Hid (Blk (World.alloc (World.alloc w (.cells #[.int .i64 n, .slice A0 xs.length c0] 26)) (.cells #[.int .i64 0, .slice none 0 0] 26)) (w.heap.size + 1) 26 #[.int .i64 0, .slice none 0 0]) := Lib.hid (Blk.new' _ 26 #[.int .i64 0, .slice none 0 0] (by simp))
  replace HX := Lib.hid (HX.out.below hb)
  replace HV := Lib.hid (HV.out.below hb)
  replace A := Lib.hid (bthen A.out hb)
  clear hb
  generalize World.alloc (World.alloc w _) _ = w1 at *
  have T1s := T1.out.1
  have T1c := T1.out.2
  go_wp2_with fail
  clear T1s T1c
  refine (HP.out _ HX.out HV.out).mono ?_
  rintro e w2 ⟨rfl, hb⟩
  replace HX := Lib.hid (HX.out.below hb)
  replace HV := Lib.hid (HV.out.below hb)
  replace T1 := Lib.hid (T1.out.below hb)
  replace HK := Lib.hid (HK.out.below hb HK.out.lt)
  replace A := Lib.hid (bthen A.out hb)
  clear hb
  have rc := HK.out.cell
  have rf := HK.out.frozen
  have rl := HK.out.lt
  go_wp2
  refine bodyPost_ret (v := .tuple #[.agg #[.int .i64 0, .slice none 0 0], .slice none 0 0, .slice none 0 0, .int .i64 1]) (by simp [results, Tryz.results7, go_sem, rc, rf, rl]) rfl ⟨rfl, ?_⟩
  exact (A.out.setCell (Nat.le_succ _) _).setCell (Nat.le_succ _) _
set_option maxRecDepth 100000 in
theorem spec_MergeAlike_big (n : Int) (v u : Value) (xs V : List Int) (w : World) (h : Sl cI w v xs) (h' : Sl cI w u V) (hl : xs.length ≤ 1073741824) (hv : vlOk n xs V = true) (h6 : 6 < n) :
    Calls Tryz.prog 7 #[.agg #[.int .i64 n, v], u] w fun e w' => e = .returned (.tuple #[.agg #[.int .i64 0, .slice none 0 0], .slice none 0 0, .slice none 0 0, .int .i64 3]) ∧ Below w.heap.size w w' := by
  obtain ⟨A0, c0, rfl⟩ := h.opn
  obtain ⟨A1, c1, rfl⟩ := h'.opn
  have A := Lib.hid (Below.refl w.heap.size w)
  have HX := Lib.hid h
  have HV := Lib.hid h'
  have HP := Lib.hid (fun W (hW : Sl cI W (.slice A0 xs.length c0) xs) (hV : Sl cI W (.slice A1 V.length c1) V) => hv ▸ spec_IsValuation n _ _ xs V W hW hV hl)
  clear h h' hl hv
  go_enter Tryz.func7, Tryz.ntmps7
  go_upto_region 1 with fail
  have hb := bthen (below_alloc' w (.cells #[.int .i64 n, .slice A0 xs.length c0] 26)) (below_alloc' (World.alloc w (.cells #[.int .i64 n, .slice A0 xs.length c0] 26)) (.cells #[.int .i64 0, .slice none 0 0] 26))
  have T1 := Lib.hid (Bk.new1 w #[.int .i64 n, .slice A0 xs.length c0] 26 (.cells #[.int .i64 0, .slice none 0 0] 26))
  have HK : Hid (Blk (World.alloc (World.alloc w (.cells #[.int .i64 n, .slice A0 xs.length c0] 26)) (.cells #[.int .i64 0, .slice none 0 0] 26)) (w.heap.size + 1) 26 #[.int .i64 0, .slice none 0 0]) := Lib.hid (Blk.new' _ 26 #[.int .i64 0, .slice none 0 0] (by simp))
  replace HX := Lib.hid (HX.out.below hb)
  replace HV := Lib.hid (HV.out.below hb)
  replace A := Lib.hid (bthen A.out hb)
  clear hb
  generalize World.alloc (World.alloc w _) _ = w1 at *
  have T1s := T1.out.1
  have T1c := T1.out.2
  go_wp2_with fail
  clear T1s T1c
  refine (HP.out _ HX.out HV.out).mono ?_
  rintro e w2 ⟨rfl, hb⟩
  replace HX := Lib.hid (HX.out.below hb)
  replace HV := Lib.hid (HV.out.below hb)
  replace T1 := Lib.hid (T1.out.below hb)
  replace HK := Lib.hid (HK.out.below hb HK.out.lt)
  replace A := Lib.hid (bthen A.out hb)
  clear hb
  have T1s := T1.out.1
  have T1c := T1.out.2
  have rc := HK.out.cell
  have rf := HK.out.frozen
  have rl := HK.out.lt
  go_wp2
  refine bodyPost_ret (v := .tuple #[.agg #[.int .i64 0, .slice none 0 0], .slice none 0 0, .slice none 0 0, .int .i64 3]) (by simp [results, Tryz.results7, go_sem, rc, rf, rl]) rfl ⟨rfl, ?_⟩
  exact (A.out.setCell (Nat.le_succ _) _).setCell (Nat.le_succ _) _
set_option maxHeartbeats 4000000 in
set_option maxRecDepth 100000 in
theorem spec_MergeAlike_ok (v u : Value) (ns us : List Nat) (w : World) (h : Sl cI w v (li ns)) (h' : Sl cI w u (li us)) (hm : MdN ns us) (hv : vlOk ns.length (li ns) (li us) = true) (h6 : ns.length ≤ 6) :
    Calls Tryz.prog 7 #[.agg #[.int .i64 ns.length, v], u] w fun e w' => ∃ B1 d1 B2 d2 B3 d3 H0 H, e = .returned (.tuple #[.agg #[.int .i64 (qn ns us : Nat), .slice B1 (qn ns us) d1], .slice B2 6 d2, .slice B3 ns.length d3, .int .i64 0]) ∧ w.heap.size ≤ H0 ∧ H0 ≤ H ∧ H ≤ w'.heap.size ∧
        Ob cI 2 H0 H w' (.slice B1 (qn ns us) d1) (li (QM ns us).1) ∧ Ob cI 2 w.heap.size H0 w' (.slice B2 6 d2) (li (QM ns us).2) ∧ Ob cI 2 H w'.heap.size w' (.slice B3 ns.length d3) (li (qcl ns us)) ∧ Below w.heap.size w w' := by
  obtain ⟨A0, c0, rfl⟩ := h.opn
  obtain ⟨A1, c1, rfl⟩ := h'.opn
  have HL := Lib.hid (li_length ns)
  have HU6 := Lib.hid (show (li us).length = 6 by rw [li_length, hm.l])
  have A := Lib.hid (Below.refl w.heap.size w)
  rw [HL.out] at h ⊢
  rw [HU6.out] at h' ⊢
  have HX := Lib.hid h
  have HV := Lib.hid h'
  have HP := Lib.hid (fun W (hW : Sl cI W (.slice A0 ns.length c0) (li ns)) (hV : Sl cI W (.slice A1 6 c1) (li us)) => hv ▸ spec_IsValuation ns.length _ _ (li ns) (li us) W hW hV (by rw [HL.out]; omega))
  have HPa := Lib.hid (fun W (hW : Sl cI W (.slice A0 ns.length c0) (li ns)) => spec_l21Partitions _ ns W hW hm.r (by omega))
  have OK := Lib.hid (cps_ok (ns := ns) (by omega))
  have HAl := Lib.hid (fun v (l : List Nat) (hl : l ∈ cps ns) W (hW : Sl cI W v (li l)) (hV : Sl cI W (.slice A1 6 c1) (li us)) => spec_l24Alike v _ l us W hW hV hm.l (by have := (OK.out l hl).1; omega) (OK.out l hl).2.1 (fun m hx => Nat.lt_of_lt_of_le (hm.b m hx) (two_pow_256 hm.r.1)))
  have HCl := Lib.hid (fun v (l : List Nat) (hl : l ∈ cps ns) W (hW : Sl cI W v (li l)) => spec_l24Classes v l W hW (by have := (OK.out l hl).1; omega) (OK.out l hl).2.1)
  have HLL := Lib.hid (fun (l : List Nat) (hl : l ∈ cps ns) => show (li l).length = ns.length by rw [li_length]; exact (OK.out l hl).1)
  have HIm := Lib.hid (fun v (l : List Nat) (hl : l ∈ cps ns) (j : Nat) W (hW : Sl cI W v (li l)) => spec_l21Images v l (us.getD j 0) W hW (by have := (OK.out l hl).1; omega) (OK.out l hl).2.1 (by rw [(OK.out l hl).1]; exact getD_lt hm.b j))
  have HQu := Lib.hid (fun v (l : List Nat) (hl : l ∈ cps ns) W (h0 : Sl cI W (.slice A0 ns.length c0) (li ns)) (hW : Sl cI W v (li l)) => spec_l21Quotient ns.length _ v ns l W h0 hW hm.r (OK.out l hl).1 (OK.out l hl).2.1)
  have HOw := Lib.hid (fun v (xs : List Int) W (hW : Sl cI W v xs) (hl : xs.length ≤ 1048576) => spec_l01Own v xs W hW (by omega))
  have RM : List.range ns.length ∈ cps ns := by obtain ⟨L, e⟩ := cps_last ns; rw [e]; simp
  have BM := Lib.hid (fun j => bst_mem us (cps ns) _ RM j)
  have BS := Lib.hid (fun j (hj : j < (cps ns).length) => bst_succ us (List.range ns.length) hj)
  have B0 : Hid (bst us ((cps ns).take 0) (List.range ns.length) = List.range ns.length) := Lib.hid rfl
  have BE : Hid (bst us ((cps ns).take (cps ns).length) (List.range ns.length) = qcl ns us) := Lib.hid (by rw [List.take_length]; exact merge_best hm)
  have CE := Lib.hid (cps_end ns)
  have CP := cps_pos ns
  have CL := cps_len (ns := ns) (by omega)
  have HLI := Lib.hid (lil_length (cps ns))
  have HT := Lib.hid (fun (j : Nat) (hj : j < 6) => qvl_take (qcl ns us) us (j := j) (by rw [hm.l]; exact hj))
  have HT0 := Lib.hid (show (qvl (qcl ns us) us).take 6 = qvl (qcl ns us) us from List.take_of_length_le (by rw [qvl_length, hm.l]; exact Nat.le_refl _))
  have HTL := Lib.hid (fun (j : Nat) (hj : j ≤ 6) => show (li ((qvl (qcl ns us) us).take j)).length = j by rw [li_length, List.length_take, qvl_length, hm.l]; omega)
  have HQE := Lib.hid (merge_quot hm)
  have HQL := Lib.hid (show (qpf ns (qcl ns us) ns.length).length = qn ns us by rw [merge_quot hm]; exact QM_len ns us)
  have HUS := Lib.hid (fun j => show us.getD j 0 < 256 from Nat.lt_of_lt_of_le (getD_lt hm.b j) (two_pow_256 hm.r.1))
  clear h h' hv hm RM
  go_enter Tryz.func7, Tryz.ntmps7
  go_upto_region 1 with fail
  have hb := bthen (below_alloc' w (.cells #[.int .i64 ns.length, .slice A0 ns.length c0] 26)) (below_alloc' (World.alloc w (.cells #[.int .i64 ns.length, .slice A0 ns.length c0] 26)) (.cells #[.int .i64 0, .slice none 0 0] 26))
  have T1 := Lib.hid (Bk.new1 w #[.int .i64 ns.length, .slice A0 ns.length c0] 26 (.cells #[.int .i64 0, .slice none 0 0] 26))
  have HK : Hid (Blk (World.alloc (World.alloc w (.cells #[.int .i64 ns.length, .slice A0 ns.length c0] 26)) (.cells #[.int .i64 0, .slice none 0 0] 26)) (w.heap.size + 1) 26 #[.int .i64 0, .slice none 0 0]) := Lib.hid (Blk.new' _ 26 #[.int .i64 0, .slice none 0 0] (by simp))
  replace HX := Lib.hid (HX.out.below hb)
  replace HV := Lib.hid (HV.out.below hb)
  replace A := Lib.hid (bthen A.out hb)
  clear hb
  generalize World.alloc (World.alloc w _) _ = w1 at *
  have T1s := T1.out.1
  have T1c := T1.out.2
  go_wp2_with fail
  clear T1s T1c
  refine (HP.out _ HX.out HV.out).mono ?_
  rintro e w2 ⟨rfl, hb⟩
  replace HX := Lib.hid (HX.out.below hb)
  replace HV := Lib.hid (HV.out.below hb)
  replace T1 := Lib.hid (T1.out.below hb)
  replace HK := Lib.hid (HK.out.below hb HK.out.lt)
  replace A := Lib.hid (bthen A.out hb)
  clear hb
  have T1s := T1.out.1
  have T1c := T1.out.2
  have hg6 : ¬ ((ns.length : Int) > 6) := by omega
  go_wp2_with fail
  clear T1s T1c
  refine (HPa.out _ HX.out).mono ?_
  rintro e w3 ⟨u9, rfl, hs, hb⟩
  replace HX := Lib.hid (HX.out.below hb)
  replace HV := Lib.hid (HV.out.below hb)
  replace T1 := Lib.hid (T1.out.below hb)
  replace HK := Lib.hid (HK.out.below hb HK.out.lt)
  replace A := Lib.hid (bthen A.out hb)
  clear hb
  obtain ⟨A9, c9, rfl⟩ := hs.opn
  rw [HLI.out] at hs ⊢
  obtain ⟨b9, o9, Aj, nj, cj, rfl, hbl, hcj, hsj⟩ := hs.at_ (k := (cps ns).length - 1) (by rw [HLI.out]; omega)
  rw [lil_get, CE.out] at hsj
  have hnj : nj = ns.length := by
    obtain ⟨A', c', hv⟩ := hsj.opn
    rw [li_length, List.length_range] at hv
    injection hv
  subst hnj
  have HS := Lib.hid hs
  have HBJ := Lib.hid hsj
  clear hs hsj
  have e9 : (((cps ns).length : Int) - 1) = (((cps ns).length - 1 : Nat) : Int) := by omega
  have e8 : 0 ≤ ((cps ns).length : Int) - 1 := by omega
  have e7 : ((cps ns).length : Int) - 1 < (cps ns).length := by omega
  go_wp2
  go_loopw [9, 10] (fun v i wr => ∃ j : Nat, j ≤ (cps ns).length ∧ i = .int .i64 j ∧ (∃ A c, v = .slice A ns.length c ∧ Sl cI wr (.slice A ns.length c) (li (bst us ((cps ns).take j) (List.range ns.length)))) ∧ Below w3.heap.size w3 wr) (fun _ i _ => (cps ns).length - (intOf i).toNat)
  case atStart => exact ⟨0, Nat.zero_le _, rfl, ⟨_, _, rfl, by rw [B0.out]; exact HBJ.out⟩, Below.refl _ _⟩
  case round =>
    obtain ⟨j, hj, rfl, ⟨Ab, cb, rfl, hsb⟩, hb⟩ := hrel
    obtain ⟨w4, hw4⟩ : ∃ W, W = wr := ⟨_, rfl⟩
    subst hw4
    clear HBJ hcj
    have HSB := Lib.hid hsb
    have HB := Lib.hid hb
    clear hsb hb
    by_cases hlt : j < (cps ns).length
    · obtain ⟨b, o, Ax, nx, cx, hE, hbx, hcx, hsx⟩ := HS.out.at_ (k := j) (by rw [HLI.out]; exact hlt)
      injection hE with hE
      injection hE with hE1 hE2
      subst hE1; subst hE2
      rw [lil_get] at hsx
      have hmem := List.getElem_mem hlt
      have HSt := Lib.hid (BS.out j hlt)
      obtain ⟨l, hl⟩ : ∃ l, (cps ns)[j] = l := ⟨_, rfl⟩
      rw [hl] at hsx hmem HSt
      have hnx : nx = ns.length := by
        obtain ⟨A', c', hv⟩ := hsx.opn
        rw [HLL.out l hmem] at hv
        injection hv
      subst hnx
      have hbm := BM.out j
      obtain ⟨bb, hbb⟩ : ∃ bb, bst us ((cps ns).take j) (List.range ns.length) = bb := ⟨_, rfl⟩
      rw [hbb] at HSB hbm HSt
      have HA1 := Lib.hid (HAl.out (.slice Ax ns.length cx) l hmem)
      have HC1 := Lib.hid (HCl.out (.slice Ax ns.length cx) l hmem)
      have HC2 := Lib.hid (HCl.out (.slice Ab ns.length cb) bb hbm)
      have hcw := (HB.out.cell (p := ⟨b9, o9 + j, none⟩) hbl).trans hcx
      have hbw := Nat.lt_of_lt_of_le hbl HB.out.size
      have HSX := Lib.hid (hsx.below HB.out)
      have HVW := Lib.hid (HV.out.below HB.out)
      clear hl hbb hmem hbm hsx hcx
      unfold bst1 at HSt
      cases ha : alk us l
      · rw [ha] at HA1 HSt
        replace HSt := Lib.hid (HSt.out.trans (if_neg (by simp)))
        go_wp2_with fail
        refine (HA1.out _ HSX.out HVW.out).mono ?_
        rintro e w5 ⟨rfl, hI⟩
        have HB5 := Lib.hid (bthen HB.out hI)
        have HSB5 := Lib.hid (HSB.out.below hI)
        clear hcw hI
        go_wp2
        exact ⟨⟨j + 1, by omega, by go_num, ⟨_, _, rfl, by rw [HSt.out]; exact HSB5.out⟩, HB5.out⟩, by simp [intOf]; omega⟩
      · rw [ha] at HA1 HSt
        rw [Bool.true_and] at HSt
        go_wp2_with fail
        refine (HA1.out _ HSX.out HVW.out).mono ?_
        rintro e w5 ⟨rfl, hI⟩
        replace hcw := (hI.cell (p := ⟨b9, o9 + j, none⟩) hbw).trans hcw
        replace hbw := Nat.lt_of_lt_of_le hbw hI.size
        have HB5 := Lib.hid (bthen HB.out hI)
        have HSX5 := Lib.hid (HSX.out.below hI)
        have HSB5 := Lib.hid (HSB.out.below hI)
        clear hI
        go_wp2_with fail
        refine (HC1.out _ HSX5.out).mono ?_
        rintro e _ ⟨rfl, rfl⟩
        go_wp2_with fail
        refine (HC2.out _ HSB5.out).mono ?_
        rintro e _ ⟨rfl, rfl⟩
        generalize mx l l.length = r1 at *
        generalize mx bb bb.length = r2 at *
        by_cases hq : r1 < r2
        · rw [decide_eq_true hq] at HSt
          have hq1 : (r1 : Int) < (r2 : Int) := by omega
          go_wp2
          exact ⟨⟨j + 1, by omega, by go_num, ⟨_, _, rfl, by rw [HSt.out]; exact HSX5.out⟩, HB5.out⟩, by simp [intOf]; omega⟩
        · rw [decide_eq_false hq] at HSt
          have hq1 : ¬ (r1 : Int) < (r2 : Int) := by omega
          clear hcw
          go_wp2
          exact ⟨⟨j + 1, by omega, by go_num, ⟨_, _, rfl, by rw [HSt.out]; exact HSB5.out⟩, HB5.out⟩, by simp [intOf]; omega⟩
    · obtain rfl : j = (cps ns).length := by omega
      have hqm := BM.out (cps ns).length
      rw [BE.out] at HSB hqm
      have HI1 := Lib.hid (fun j W h => HIm.out (.slice Ab ns.length cb) _ hqm j W h)
      have HQ1 := Lib.hid (fun W h0 h => HQu.out (.slice Ab ns.length cb) _ hqm W h0 h)
      have HLq := Lib.hid (HLL.out _ hqm)
      rw [HQL.out] at HQ1
      rw [HQE.out] at HQ1
      clear hqm
      replace HX := Lib.hid (HX.out.below HB.out)
      replace HV := Lib.hid (HV.out.below HB.out)
      replace T1 := Lib.hid (T1.out.below HB.out)
      replace HK := Lib.hid (HK.out.below HB.out HK.out.lt)
      have HA4 := Lib.hid (bthen A.out HB.out)
      have HZ4 := Lib.hid HK.out.lt
      clear HB HS A
      go_wp2
      go_loopw [11, 12] (fun v i wr => ∃ j : Nat, j ≤ 6 ∧ i = .int .i64 j ∧ Ow cI 2 w4.heap.size wr v (li ((qvl (qcl ns us) us).take j)) ∧ Below w4.heap.size w4 wr) (fun _ i _ => 6 - (intOf i).toNat)
      case atStart => exact ⟨0, Nat.zero_le _, rfl, Ow.lit (K := cI) [] rfl rfl (Nat.le_refl _), below_alloc' _ _⟩
      case round =>
        obtain ⟨j, hj, rfl, ho, hb⟩ := hrel
        obtain ⟨w5, hw5⟩ : ∃ W, W = wr := ⟨_, rfl⟩
        subst hw5
        obtain ⟨A2, c2, rfl⟩ := ho.opn
        have HLx := Lib.hid (HTL.out j hj)
        rw [HLx.out] at ho ⊢
        have HO := Lib.hid ho
        have HB := Lib.hid hb
        by_cases hlt : j < 6
        · obtain ⟨b, o, rfl, hbl, hcx⟩ := (HV.out.below hb).atI (k := j) (by rw [HU6.out]; exact hlt)
          rw [li_get] at hcx
          have HE := Lib.hid (HT.out j hlt)
          have HIx := Lib.hid (HI1.out j)
          have hux := HUS.out j
          have HLI1 := Lib.hid (li_snocP ((qvl (qcl ns us) us).take j) (img (pw (qcl ns us)) (us.getD j 0)))
          rw [← HE.out] at HLI1
          generalize img (pw (qcl ns us)) (us.getD j 0) = r at *
          generalize us.getD j 0 = m at *
          generalize li ((qvl (qcl ns us) us).take j) = L at *
          have HSBw := Lib.hid (HSB.out.below hb)
          clear ho hb HE
          go_wp2_with fail
          refine (HIx.out _ HSBw.out).mono ?_
          rintro e w6 ⟨rfl, hb⟩
          have HO3 := Lib.hid (HO.out.below hb)
          have HB3 := Lib.hid (bthen HB.out hb)
          have hz3 := HB3.out.size
          clear hb
          go_wp2_with (at_builtin; refine stopHere ?_)
          refine goHere ?_
          refine ap_one (K := cI) _ ty_int64 rfl _ _ rfl (B := w4.heap.size) (xs := L) rfl HO3.out (r : Int) rfl rfl (by have := HLx.out; omega) (by omega) ?_
          intro v1 w7 ho1 hg1 hb1 hat1
          have O1 := Lib.hid ho1
          have B1 := Lib.hid (HB3.out.trans (hb1.mono (by omega)))
          clear ho1 hg1 hb1 hat1
          go_wp2
          exact ⟨⟨j + 1, by omega, by go_num, by rw [HLI1.out]; exact O1.out, B1.out⟩, by simp [intOf]; omega⟩
        · obtain rfl : j = 6 := by omega
          rw [HT0.out] at HO
          replace HX := Lib.hid (HX.out.below hb)
          replace T1 := Lib.hid (T1.out.below hb)
          replace HK := Lib.hid (HK.out.below hb HK.out.lt)
          replace HSB := Lib.hid (HSB.out.below hb)
          have T1s := T1.out.1
          have T1c := T1.out.2
          clear ho hb HTL
          go_wp2_with fail
          clear T1s T1c
          refine (HQ1.out _ HX.out HSB.out).mono ?_
          rintro e w6 ⟨A6, c6, rfl, ho6, hb6⟩
          have HB6 := Lib.hid hb6
          clear hb6
          go_wp2_with fail
          refine (HOw.out _ _ _ (HSB.out.below HB6.out) (by rw [HLq.out]; omega)).mono ?_
          rintro e w7 ⟨u7, rfl, ho7, hb7⟩
          obtain ⟨A7, c7, rfl⟩ := ho7.opn
          rw [HLq.out] at ho7 ⊢
          have hr1 := (HK.out.below HB6.out HK.out.lt).below hb7 (Nat.lt_of_lt_of_le HK.out.lt HB6.out.size)
          have rc := hr1.cell
          have rf := hr1.frozen
          have rl := hr1.lt
          have z4 : w.heap.size + 1 < w4.heap.size := HZ4.out
          have z5 := HB.out.size
          have z6 := HB6.out.size
          have z7 := hb7.size
          have zA := HA4.out.size
          have Z1 := Lib.hid ((ho6.below hb7))
          have Z1b : Hid (∀ g, (Value.slice A6 (qn ns us) c6).ownBlock = some g → g < w6.heap.size) := Lib.hid (fun g hg => (ho6.block g hg).2)
          have Z2 := Lib.hid ((HO.out.below HB6.out).below hb7)
          have Z2b : Hid (∀ g, (Value.slice A2 6 c2).ownBlock = some g → g < w5.heap.size) := Lib.hid (fun g hg => (HO.out.block g hg).2)
          have Z3 := Lib.hid ho7
          have Z3b : Hid (∀ g, (Value.slice A7 ns.length c7).ownBlock = some g → g < w7.heap.size) := Lib.hid (fun g hg => (ho7.block g hg).2)
          have Z4 := Lib.hid (HA4.out.trans (((HB.out.trans (HB6.out.mono z5)).trans (hb7.mono (by omega))).mono zA))
          have Z8 : Hid (∀ (W : World) (u1 u2 : Value), ((W.setCell ⟨w.heap.size + 1, 0, none⟩ u1).setCell ⟨w.heap.size + 1, 1, none⟩ u2).heap.size = W.heap.size) := Lib.hid (fun W u1 u2 => by simp [World.setCell])
          have hp4 : w.heap.size + 1 < w5.heap.size := by omega
          have hp6 : w.heap.size + 1 < w6.heap.size := by omega
          have hq4 : w.heap.size ≤ w5.heap.size := by omega
          clear hb7 hr1 ho7
          go_wp2
          refine bodyPost_ret (v := .tuple #[.agg #[.int .i64 (qn ns us : Nat), .slice A6 (qn ns us) c6], .slice A2 6 c2, .slice A7 ns.length c7, .int .i64 0]) (by simp [results, Tryz.results7, go_sem, rc, rf, rl]) rfl ⟨_, _, _, _, _, _, w5.heap.size, w6.heap.size, rfl, hq4, z6, ?_, ⟨?_, Z1b.out⟩, ⟨?_, Z2b.out⟩, ⟨?_, ?_⟩, ?_⟩
          · rw [Z8.out]; exact z7
          · exact (Z1.out.setBelow hp4 _).setBelow hp4 _
          · exact ((Z2.out.setBelow z4 _).setBelow z4 _).mono zA
          · exact (Z3.out.setBelow hp6 _).setBelow hp6 _
          · rw [Z8.out]; exact Z3b.out
          · exact (Z4.out.setCell (Nat.le_succ _) _).setCell (Nat.le_succ _) _
end Go.Proofs.YtomojninngdbeaaGreat

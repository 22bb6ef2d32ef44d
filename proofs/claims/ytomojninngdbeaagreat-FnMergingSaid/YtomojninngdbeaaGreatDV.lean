/- Joined of several texts: Dp, Dq, Dr2, SchT, Ds2, Dt2, Dv2. -/
import Derived.Test.YtomojninngdbeaaGreatDA
import Derived.Test.YtomojninngdbeaaGreat24E
import Derived.Test.YtomojninngdbeaaGreatSch
import Derived.Test.YtomojninngdbeaaGreatRel
namespace Go.Proofs.YtomojninngdbeaaGreat
open Go.RowKit
set_option linter.unusedVariables false
set_option linter.unusedSimpArgs false
/- The reference's drawing functions of posets and valuations, by the shape of what they draw: first parts (written by program, gendr8.py). -/
theorem q_l01FullP (k F : Nat) (hF : F = 2 ^ k - 1) (h1 : k ≤ 62) (W : World) (n : Nat) :
    Calls Tryz.prog 38 #[.int .i64 (k : Int)] (W.drewN n) fun e w'' => e = .returned (.int .i64 (F : Int)) ∧ ∃ q, w'' = W.drewN q :=
  (spec_l01Full' k F hF _ h1).mono fun e w' hh => ⟨hh.1, n, hh.2.symm⟩
theorem set_all {os : List Nat} {n : Nat} (h : ∀ x ∈ os, x < n) (i y : Nat) (hy : y < n) : ∀ x ∈ os.set i y, x < n := fun x hx => by
  rcases List.mem_or_eq_of_mem_set hx with h1 | h1
  · exact h x h1
  · rw [h1]; exact hy
theorem getD_all {os : List Nat} {n : Nat} (h : ∀ x ∈ os, x < n) {i : Nat} (hi : i < os.length) : os.getD i 0 < n := h _ (getD_mem hi)
/-- squeezing by any order: by shape -/
theorem spec_l05SqueezeS (v : Value) (os : List Nat) (m : Nat) (w : World) (h : Sl cI w v (li os)) (h8 : os.length ≤ 8) (ho : ∀ x ∈ os, x < 8) (hm : m < 256) :
    Calls Tryz.prog 133 #[v, .int .i64 m] w fun e w' => (∃ x : Nat, e = .returned (.int .i64 (x : Int)) ∧ x < 256) ∧ w = w' := by
  obtain ⟨A, c, rfl⟩ := h.opn
  have HL := Lib.hid (li_length os)
  rw [HL.out] at h ⊢
  have HS := Lib.hid h
  have HO := Lib.hid (fun j (hj : j < os.length) => getD_all ho hj)
  clear h ho
  go_enter Tryz.func133, Tryz.ntmps133
  go_wp2
  go_loop [5, 6] (fun t i => ∃ j q : Nat, j ≤ os.length ∧ i = .int .i64 j ∧ t = .int .i64 (q : Nat) ∧ q < 2 ^ 8) (fun _ i => os.length - (intOf i).toNat)
  case atStart => exact ⟨0, 0, Nat.zero_le _, rfl, rfl, by decide⟩
  case round =>
    obtain ⟨j, q, hj, rfl, rfl, hq⟩ := hrel
    by_cases hlt : j < os.length
    · obtain ⟨b, o, rfl, hbl, hc0⟩ := HS.out.atI (k := j) (by rw [HL.out]; exact hlt)
      rw [li_get] at hc0
      have hx := HO.out j hlt
      generalize os.getD j 0 = x at *
      have HB := Lib.hid (spec_l01Bit m x w (by omega) (by omega))
      have HQ := Lib.hid hq
      have hq2 : q < 256 := hq
      clear hq
      go_wp2_with fail
      refine HB.out.mono ?_
      rintro e _ ⟨rfl, rfl⟩
      cases m.testBit x
      · go_wp2
        exact ⟨⟨j + 1, q, by omega, by go_num, rfl, HQ.out⟩, by simp [intOf]; omega⟩
      · have e2 := i64_or_nat q (2 ^ j) (by omega) (two_pow_lt (by omega))
        have HN := Lib.hid (show q ||| 2 ^ j < 2 ^ 8 from Nat.or_lt_two_pow HQ.out (Nat.pow_lt_pow_right (by decide) (by omega)))
        rw [← cast_two_pow] at e2
        have HE := Lib.hid e2
        clear e2
        generalize q ||| 2 ^ j = q2 at *
        go_wp2_with fail
        refine (spec_l01One (j : Int) _ (by omega) (by omega)).mono ?_
        rintro e _ ⟨rfl, rfl⟩
        rw [Int.toNat_natCast]
        go_wp2
        rw [HE.out]
        exact ⟨⟨j + 1, q2, by omega, by go_num, rfl, HN.out⟩, by simp [intOf]; omega⟩
    · go_wp2
      go_ret
      exact ⟨⟨q, rfl, hq⟩, rfl⟩
theorem spec_l05Renumber (v u : Value) (ns os : List Nat) (w : World) (h : Sl cI w v (li ns)) (h' : Sl cI w u (li os)) (hr : RelN ns) (h8 : os.length ≤ 8) (ho : ∀ x ∈ os, x < ns.length) :
    Calls Tryz.prog 94 #[v, u] w fun e w' => ∃ z L, e = .returned z ∧ L.length = os.length ∧ Ow cI 2 w.heap.size w' z L ∧ Below w.heap.size w w' := by
  obtain ⟨A0, c0, rfl⟩ := h.opn
  obtain ⟨A1, c1, rfl⟩ := h'.opn
  have hn8 := hr.1
  have HL := Lib.hid (li_length os)
  have HV := Lib.hid (li_length ns)
  rw [HV.out] at h ⊢
  rw [HL.out] at h' ⊢
  have HX := Lib.hid h
  have HS := Lib.hid h'
  have HO := Lib.hid (fun j (hj : j < os.length) => getD_all ho hj)
  have HG := Lib.hid (fun x => show ns.getD x 0 < 256 from Nat.lt_of_lt_of_le (getD_lt hr.2 x) (two_pow_256 hn8))
  have HQ := Lib.hid (fun (m : Nat) W (hm : m < 256) (hW : Sl cI W (.slice A1 os.length c1) (li os)) => spec_l05SqueezeS _ os m W hW h8 (fun x hx => by have := ho x hx; omega) hm)
  clear h h' ho hr
  go_enter Tryz.func94, Tryz.ntmps94
  go_wp2
  go_loopw [5, 6] (fun v i wr => ∃ (j : Nat) (L : List Int), j ≤ os.length ∧ i = .int .i64 j ∧ L.length = j ∧ Ow cI 2 w.heap.size wr v L ∧ Below w.heap.size w wr) (fun _ i _ => os.length - (intOf i).toNat)
  case atStart => exact ⟨0, [], Nat.zero_le _, rfl, rfl, Ow.lit (K := cI) [] rfl rfl (Nat.le_refl _), below_alloc' _ _⟩
  case round =>
    obtain ⟨j, L, hj, rfl, hl, ho, hb⟩ := hrel
    obtain ⟨w1, hw1⟩ : ∃ W, W = wr := ⟨_, rfl⟩
    subst hw1
    obtain ⟨A2, c2, rfl⟩ := ho.opn
    rw [hl] at ho ⊢
    have HLL := Lib.hid hl
    clear hl
    by_cases hlt : j < os.length
    · obtain ⟨b, o, rfl, hbl, hc0⟩ := (HS.out.below hb).atI (k := j) (by rw [HL.out]; exact hlt)
      rw [li_get] at hc0
      have hx := HO.out j hlt
      generalize os.getD j 0 = x at *
      obtain ⟨d, q, rfl, hdl, hd0⟩ := (HX.out.below hb).atI (k := x) (by rw [HV.out]; exact hx)
      rw [li_get] at hd0
      have hm := HG.out x
      generalize ns.getD x 0 = m at *
      have HSW := Lib.hid (HS.out.below hb)
      have OA := Lib.hid ho
      have HB := Lib.hid hb
      have hz := hb.size
      clear ho hb
      go_wp2_with fail
      refine (HQ.out m _ hm HSW.out).mono ?_
      rintro e _ ⟨⟨y, rfl, hy⟩, rfl⟩
      go_wp2_with (at_builtin; refine stopHere ?_)
      refine goHere ?_
      refine ap_one (K := cI) _ ty_int64 rfl _ _ rfl (B := w.heap.size) (v := .slice A2 j c2) (xs := L) rfl OA.out (y : Int) rfl rfl (by have := HLL.out; omega) (by omega) ?_
      intro v1 w7 ho1 hg1 hb1 hat1
      have O1 := Lib.hid ho1
      have B1 := Lib.hid (HB.out.trans (hb1.mono (by omega)))
      have HL1 : Hid ((L ++ [(y : Int)]).length = j + 1) := Lib.hid (by rw [List.length_append, HLL.out]; rfl)
      clear ho1 hg1 hb1 hat1
      go_wp2
      exact ⟨⟨j + 1, L ++ [(y : Int)], by omega, by go_num, HL1.out, O1.out, B1.out⟩, by simp [intOf]; omega⟩
    · have OA := Lib.hid ho
      have HB := Lib.hid hb
      clear ho hb
      go_wp2
      go_ret
      exact ⟨_, L, rfl, by have := HLL.out; omega, OA.out, HB.out⟩
set_option maxRecDepth 100000 in
set_option maxHeartbeats 4000000 in
theorem spec_l16Shuffle (w0 : World) (v : Value) (xs : List (Fin 256)) (w : World) (g : Nat) (n : Nat) (S : Src 69 w0 v xs w g) (h8 : n ≤ 8) :
    Calls Tryz.prog 95 #[.pointer (some ⟨g, 0, none⟩), .int .i64 (n : Int)] w fun e w' => ∃ u os, e = .returned u ∧ os.length = n ∧ (∀ x ∈ os, x < n) ∧ Ow cI 2 w.heap.size w' u (li os) ∧ Src 69 w0 v xs w' g ∧ w.grownBy w' (some g) := by
  have HB : Hid (w.heap.size ≤ w.heap.size) := Lib.hid (Nat.le_refl _)
  have D := Lib.hid (Dg.start S)
  clear S
  go_enter Tryz.func95, Tryz.ntmps95
  go_wp2
  go_loopw [5, 6] (fun a i wr => ∃ j : Nat, j ≤ n ∧ i = .int .i64 (j : Int) ∧ Ow cI 2 w.heap.size wr a (li (List.range j)) ∧ Dg w0 v xs g w wr) (fun _ i _ => n - (intOf i).toNat)
  case atStart => exact ⟨0, Nat.zero_le _, rfl, Ow.lit (K := cI) [] rfl rfl (Nat.le_refl _), D.out.alloc _⟩
  case round =>
    clear D
    obtain ⟨j, hj, rfl, OA, D⟩ := hrel
    obtain ⟨w1, hw1⟩ : ∃ W, W = wr := ⟨_, rfl⟩
    subst hw1
    obtain ⟨Aa, ca, rfl⟩ := OA.opn
    rw [li_length, List.length_range] at OA ⊢
    replace OA := Lib.hid OA
    replace D := Lib.hid D
    by_cases hlt : j < n
    · have bsz := D.out.size
      go_wp2_with (at_builtin; refine stopHere ?_)
      refine goHere ?_
      refine ap_one (K := cI) _ ty_int64 rfl _ _ rfl (B := w.heap.size) (v := .slice Aa j ca) (xs := li (List.range j)) rfl OA.out (j : Int) rfl rfl (by rw [li_length, List.length_range]; omega) bsz ?_
      intro v1 w9 ho1 hg1 hb1 hat1
      rw [← li_snoc, ← List.range_succ] at ho1
      have D9 := Lib.hid (D.out.grown (grown_alloc _ hg1) (fun q e => by have := OA.out.block q e; omega))
      have O9 := Lib.hid ho1
      clear ho1 hg1 hb1 hat1
      go_wp2
      exact ⟨⟨j + 1, by omega, by go_num, O9.out, D9.out⟩, by simp [intOf]; omega⟩
    · obtain rfl : j = n := by omega
      go_wp2
      go_loopw [7] (fun i wr => ∃ (t : Nat) (os : List Nat), t ≤ j ∧ i = .int .i64 ((t : Int) - 1) ∧ os.length = j ∧ (∀ x ∈ os, x < j) ∧ Ow cI 2 w.heap.size wr (.slice Aa j ca) (li os) ∧ Dg w0 v xs g w wr) (fun i _ => (intOf i + 1).toNat)
      case atStart => exact ⟨j, List.range j, Nat.le_refl _, by go_num, List.length_range, fun x hx => List.mem_range.1 hx, OA.out, D.out⟩
      case round =>
        clear OA D
        obtain ⟨t, os, ht, rfl, hol, hos, OA, D⟩ := hrel
        obtain ⟨w2, hw2⟩ : ∃ W, W = wr := ⟨_, rfl⟩
        subst hw2
        replace OA := Lib.hid OA
        replace D := Lib.hid D
        replace hos := Lib.hid hos
        by_cases h1 : t ≤ 1
        · go_wp2
          go_ret
          exact ⟨_, os, rfl, hol, hos.out, OA.out, D.out.S, D.out.gr⟩
        · obtain ⟨i, rfl⟩ : ∃ i, t = i + 2 := ⟨t - 2, by omega⟩
          rw [show (((i + 2 : Nat) : Int) - 1) = ((i + 1 : Nat) : Int) by omega]
          have hil : i + 1 < (li os).length := by rw [li_length]; omega
          go_wp2_with fail
          refine (spec_l01Next _ _ _ _ _ (((i + 1 : Nat) : Int) + 1) D.out.S (by omega) (by omega)).mono ?_
          rintro e w1 ⟨k, rfl, hk, hS, hg, -⟩
          replace OA := Lib.hid (D.out.passB OA.out HB.out hg)
          replace D := Lib.hid (D.out.call hS hg)
          clear hS hg
          obtain ⟨ga, cc, hv, gB, gl, -⟩ := OA.out.form (by omega)
          injection hv with hA hN hC
          subst hA
          subst hC
          clear hN
          have hkl : k < (li os).length := by rw [li_length]; omega
          obtain ⟨ci, fi, -, -⟩ := OA.out.at1 rfl hil rfl
          obtain ⟨ck, fk, -, -⟩ := OA.out.at1 rfl hkl rfl
          rw [li_get] at ci ck
          have hxi := getD_all hos.out (show i + 1 < os.length by omega)
          have hxk := getD_all hos.out (show k < os.length by omega)
          obtain ⟨yi, hyi⟩ : ∃ y, os.getD (i + 1) 0 = y := ⟨_, rfl⟩
          obtain ⟨yk, hyk⟩ : ∃ y, os.getD k 0 = y := ⟨_, rfl⟩
          rw [hyi] at ci hxi
          rw [hyk] at ck hxk
          have O9 := Lib.hid (OA.out.set1 (j := i + 1) (x := (yk : Int)) (u := .int .i64 (yk : Int)) rfl rfl hil)
          rw [li_set] at O9
          have D9 := Lib.hid (D.out.set (p := ⟨ga, i + 1, none⟩) (show w.heap.size ≤ ga by omega) (.int .i64 (yk : Int)))
          have hos9 := Lib.hid (set_all hos.out (i + 1) yk hxk)
          have hol9 : (os.set (i + 1) yk).length = j := by rw [List.length_set]; exact hol
          clear hyi hyk
          go_upto_region 12 with fail
          generalize World.setCell w1 _ _ = W9 at *
          clear OA D hos ci ck fi fk hil hkl hol
          obtain ⟨oz, hoz⟩ : ∃ oz, os.set (i + 1) yk = oz := ⟨_, rfl⟩
          rw [hoz] at O9 hos9 hol9
          clear hoz
          have hkl : k < (li oz).length := by rw [li_length]; omega
          obtain ⟨ck, fk, -, -⟩ := O9.out.at1 rfl hkl rfl
          have O8 := Lib.hid (O9.out.set1 (j := k) (x := (yi : Int)) (u := .int .i64 (yi : Int)) rfl rfl hkl)
          rw [li_set] at O8
          have D8 := Lib.hid (D9.out.set (p := ⟨ga, k, none⟩) (show w.heap.size ≤ ga by omega) (.int .i64 (yi : Int)))
          have hos8 := Lib.hid (set_all hos9.out k yi hxi)
          have hol8 := Lib.hid (show (oz.set k yi).length = j by rw [List.length_set]; exact hol9)
          go_wp2
          exact ⟨⟨i + 1, oz.set k yi, by omega, by go_num, hol8.out, hos8.out, O8.out, D8.out⟩, by simp [intOf]; omega⟩
/- The reference's drawing functions of posets, by the shape of what they draw (written by program, gendr9.py). -/
set_option maxRecDepth 100000 in
set_option maxHeartbeats 4000000 in
theorem spec_l16Join (n2 : Nat) (v u : Value) (L1 L2 : List Int) (w : World) (h : Sl cI w v L1) (h' : Sl cI w u L2) (hl1 : L1.length ≤ 1000) (hl2 : L2.length ≤ 1000) (h62 : n2 ≤ 62) :
    Calls Tryz.prog 96 #[.agg #[.int .i64 1, v], .agg #[.int .i64 (n2 : Int), u], .bool true] w fun e w' => ∃ z L, e = .returned (.agg #[.int .i64 (L.length : Int), z]) ∧ L.length = L1.length + L2.length ∧ Ow cI 2 w.heap.size w' z L ∧ Below w.heap.size w w' := by
  obtain ⟨A0, c0, rfl⟩ := h.opn
  obtain ⟨A1, c1, rfl⟩ := h'.opn
  have A := Lib.hid (Below.refl w.heap.size w)
  have HX := Lib.hid h
  have HY := Lib.hid h'
  obtain ⟨F, hF⟩ : ∃ F, F = 2 ^ n2 - 1 := ⟨_, rfl⟩
  have HQ := Lib.hid (fun W n => q_l01FullP n2 F hF h62 W n)
  have HMk := Lib.hid (fun v (xs : List Int) W (hW : Sl cI W v xs) (hl : xs.length ≤ 1048576) => spec_l16Make v xs W hW hl)
  clear h h' hF
  go_enter Tryz.func96, Tryz.ntmps96
  go_upto_region 1 with fail
  have T1 : Hid (Bk (World.alloc (World.alloc (World.alloc w (.cells #[.int .i64 1, .slice A0 L1.length c0] 26)) (.cells #[.int .i64 (n2 : Int), .slice A1 L2.length c1] 26)) (.cells #[.int .i64 0, .slice none 0 0] 26)) w.heap.size #[.int .i64 1, .slice A0 L1.length c0]) := Lib.hid (((Bk.new w _ _).alloc _).alloc _)
  have T2 : Hid (Bk (World.alloc (World.alloc (World.alloc w (.cells #[.int .i64 1, .slice A0 L1.length c0] 26)) (.cells #[.int .i64 (n2 : Int), .slice A1 L2.length c1] 26)) (.cells #[.int .i64 0, .slice none 0 0] 26)) (w.heap.size + 1) #[.int .i64 (n2 : Int), .slice A1 L2.length c1]) := Lib.hid (by
    have := (Bk.new (World.alloc w (.cells #[.int .i64 1, .slice A0 L1.length c0] 26)) #[.int .i64 (n2 : Int), .slice A1 L2.length c1] 26).alloc (.cells #[.int .i64 0, .slice none 0 0] 26)
    rwa [size_alloc'] at this)
  have HK : Hid (Blk (World.alloc (World.alloc (World.alloc w (.cells #[.int .i64 1, .slice A0 L1.length c0] 26)) (.cells #[.int .i64 (n2 : Int), .slice A1 L2.length c1] 26)) (.cells #[.int .i64 0, .slice none 0 0] 26)) (w.heap.size + 2) 26 #[.int .i64 0, .slice none 0 0]) := Lib.hid (Blk.new' _ 26 #[.int .i64 0, .slice none 0 0] (by rw [size_alloc', size_alloc']))
  have hb : Below w.heap.size w (World.alloc (World.alloc (World.alloc w (.cells #[.int .i64 1, .slice A0 L1.length c0] 26)) (.cells #[.int .i64 (n2 : Int), .slice A1 L2.length c1] 26)) (.cells #[.int .i64 0, .slice none 0 0] 26)) := bthen (bthen (below_alloc' _ _) (below_alloc' _ _)) (below_alloc' _ _)
  replace HX := Lib.hid (HX.out.below hb)
  replace HY := Lib.hid (HY.out.below hb)
  replace A := Lib.hid (bthen A.out hb)
  clear hb
  generalize World.alloc (World.alloc (World.alloc w _) _) _ = w1 at *
  go_wp2
  go_loopw [7, 8] (fun v i wr => ∃ (j : Nat) (L : List Int), j ≤ L1.length ∧ i = .int .i64 j ∧ L.length = j ∧ Ow cI 2 w1.heap.size wr v L ∧ Below w1.heap.size w1 wr) (fun _ i _ => L1.length - (intOf i).toNat)
  case atStart => exact ⟨0, [], Nat.zero_le _, rfl, rfl, Ow.lit (K := cI) [] rfl rfl (Nat.le_refl _), below_alloc' _ _⟩
  case round =>
    obtain ⟨j, L, hj, rfl, hl, ho, hb⟩ := hrel
    obtain ⟨w2, hw2⟩ : ∃ W, W = wr := ⟨_, rfl⟩
    subst hw2
    obtain ⟨A2, c2, rfl⟩ := ho.opn
    rw [hl] at ho ⊢
    have HLL := Lib.hid hl
    have OA := Lib.hid ho
    have HB := Lib.hid hb
    have hz := hb.size
    have a1 : w2.cell? ⟨w.heap.size, 1, none⟩ = some (.slice A0 L1.length c0) := (T1.out.below hb).2 1
    have a0 : w2.cell? ⟨w.heap.size, 0, none⟩ = some (.int .i64 1) := (T1.out.below hb).2 0
    have b0 : w2.cell? ⟨w.heap.size + 1, 0, none⟩ = some (.int .i64 (n2 : Int)) := (T2.out.below hb).2 0
    clear hl ho
    by_cases hlt : j < L1.length
    · obtain ⟨b, o, rfl, hbl, hcx⟩ := (HX.out.below hb).atI (k := j) hlt
      generalize L1[j] = x at *
      clear hb
      go_upto_region 7 with fail
      go_quiet ((go_at_call 38; exact HQ.out _ _))
      obtain ⟨y, hy⟩ : ∃ y, bits BinOp.or IntKind.i64 x (wrap64 ((F : Int) * 2)) = y := ⟨_, rfl⟩
      rw [hy]
      clear hy a0 b0 hcx
      replace OA := Lib.hid (OA.out.drewN nq)
      replace HB := Lib.hid (below_drewN HB.out nq)
      replace hz := HB.out.size
      generalize World.drewN w2 nq = w3 at *
      go_wp2_with (at_builtin; refine stopHere ?_)
      refine goHere ?_
      refine ap_one (K := cI) _ ty_int64 rfl _ _ rfl (B := w1.heap.size) (v := .slice A2 j c2) (xs := L) rfl OA.out (y : Int) rfl rfl (by have := HLL.out; omega) (by omega) ?_
      intro v1 w7 ho1 hg1 hb1 hat1
      have O1 := Lib.hid ho1
      have B1 := Lib.hid (HB.out.trans (hb1.mono (by omega)))
      have HL1 : Hid ((L ++ [y]).length = j + 1) := Lib.hid (by rw [List.length_append, HLL.out]; rfl)
      clear ho1 hg1 hb1 hat1
      go_wp2
      exact ⟨⟨j + 1, L ++ [y], by omega, by go_num, HL1.out, O1.out, B1.out⟩, by simp [intOf]; omega⟩
    · obtain rfl : j = L1.length := by omega
      clear hb hz
      go_wp2
      clear a1 a0 b0
      go_loopw [7, 10] (fun v i wr => ∃ (k : Nat) (M : List Int), k ≤ L2.length ∧ i = .int .i64 k ∧ M.length = L1.length + k ∧ Ow cI 2 w1.heap.size wr v M ∧ Below w1.heap.size w1 wr) (fun _ i _ => L2.length - (intOf i).toNat)
      case atStart => exact ⟨0, L, Nat.zero_le _, rfl, HLL.out, OA.out, HB.out⟩
      case round =>
        clear OA HB HLL
        obtain ⟨k, M, hk, rfl, hl, ho, hb⟩ := hrel
        obtain ⟨w3, hw3⟩ : ∃ W, W = wr := ⟨_, rfl⟩
        subst hw3
        obtain ⟨A3, c3, rfl⟩ := ho.opn
        have HLL := Lib.hid hl
        have HMB : M.length ≤ 2000 := by omega
        have OA := Lib.hid ho
        have HB := Lib.hid hb
        have hz := hb.size
        clear hl ho
        generalize hML : M.length = ml at *
        have HML := Lib.hid hML
        clear hML
        have b1 : w3.cell? ⟨w.heap.size + 1, 1, none⟩ = some (.slice A1 L2.length c1) := (T2.out.below hb).2 1
        by_cases hlt : k < L2.length
        · obtain ⟨b, o, rfl, hbl, hcx⟩ := (HY.out.below hb).atI (k := k) hlt
          have a0 : w3.cell? ⟨w.heap.size, 0, none⟩ = some (.int .i64 1) := (T1.out.below hb).2 0
          have a0s : w.heap.size < w3.heap.size := (T1.out.below hb).1
          have b1s : w.heap.size + 1 < w3.heap.size := (T2.out.below hb).1
          generalize L2[k] = x at *
          clear hb
          go_upto_region 12 with fail
          have hI := (Below.refl w3.heap.size w3).drew
          refine wp_region_sched (Below w3.heap.size w3) 11 [0, 1, 2, 3, 4, 5, 6, 7, 8, 9] [0, 1, 2, 3, 4, 5, 6, 7, 8, 9, 10] (by kernel_rfl) (by kernel_rfl) hI ?_
          repeat
            apply wpSched_q rfl rfl
            case h =>
              intro w' hI K hK
              have b1' := (hI.cell (p := ⟨w.heap.size + 1, 1, none⟩) b1s).trans b1
              have a0' := (hI.cell (p := ⟨w.heap.size, 0, none⟩) a0s).trans a0
              have hcx' := (hI.cell (p := ⟨b, o + k, none⟩) hbl).trans hcx
              simp only [quietV, stillV]
              go_simp
              exact hK
            go_simp
          refine wpSched_r rfl rfl ?_ hI
          intro K hK _
          go_simp
          obtain ⟨y, hy⟩ : ∃ y, IntKind.i64.wrap (x * 2 ^ min (IntKind.u64.wrap 1).toNat 64) = y := ⟨_, rfl⟩
          rw [hy]
          clear hy a0 b1 hcx a0s b1s
          refine hK _ _ (by first | exact hI.alloc hI.size _ | exact (hI.alloc hI.size _).drew | exact ((Below.refl _ _).alloc (Nat.le_refl _) _).drew) ?_
          clear hK K
          refine wpSched_nil ?_
          try simp only [List.drop_succ_cons, List.drop_zero, List.drop_nil]
          have OA3 := Lib.hid (OA.out.below hI)
          have HB3 := Lib.hid (bthen HB.out hI)
          clear hI OA HB hz
          change wpList _ _ _ _ _ (World.alloc (World.drew w3) _)
          have hz := HB3.out.size
          refine ap_one (K := cI) (World.drew w3) ty_int64 rfl _ _ rfl (B := w1.heap.size) (v := .slice A3 ml c3) (xs := M) rfl OA3.out (y : Int) rfl rfl (by have := HML.out; omega) hz ?_
          intro v1 w7 ho1 hg1 hb1 hat1
          have O1 := Lib.hid ho1
          have B1 := Lib.hid (HB3.out.trans (hb1.mono (by omega)))
          have HL1 : Hid ((M ++ [y]).length = L1.length + (k + 1)) := Lib.hid (by rw [List.length_append, HML.out, HLL.out]; rfl)
          clear ho1 hg1 hb1 hat1
          go_wp2
          exact ⟨⟨k + 1, M ++ [y], by omega, by go_num, HL1.out, O1.out, B1.out⟩, by simp [intOf]; omega⟩
        · obtain rfl : k = L2.length := by omega
          have hk1 := HK.out.lt
          have HK1 := Lib.hid (HK.out.below hb hk1)
          have hzw := A.out.size
          clear hb
          go_wp2_with fail
          refine (HMk.out _ _ _ OA.out.sl (by rw [HML.out]; omega)).mono ?_
          rintro e w4 ⟨A4, c4, rfl, ho, hb⟩
          have r := HK1.out.below hb HK1.out.lt
          have rc := r.cell
          have rf := r.frozen
          have rl := r.lt
          have B2 := Lib.hid (bthen HB.out hb)
          have HO2 := Lib.hid ho
          have EL : Hid (M.length = L1.length + L2.length) := Lib.hid (by rw [HML.out, HLL.out])
          clear hb HK1 ho r b1
          go_wp2
          refine bodyPost_ret (v := .agg #[.int .i64 (M.length : Int), .slice A4 M.length c4]) (by simp [results, Tryz.results96, go_sem, rc, rf, rl]) rfl ⟨_, M, rfl, EL.out, ?_, ?_⟩
          · have hp : w.heap.size + 2 < w3.heap.size := by omega
            exact ((HO2.out.setBelow hp _).setBelow hp _).mono (by omega)
          · exact ((A.out.trans (B2.out.mono hzw)).setCell (by show w.heap.size ≤ w.heap.size + 1 + 1; omega) _).setCell (by show w.heap.size ≤ w.heap.size + 1 + 1; omega) _
set_option maxRecDepth 100000 in
set_option maxHeartbeats 4000000 in
theorem spec_l16Some (w0 : World) (v : Value) (xs : List (Fin 256)) (w : World) (g : Nat) (size : Nat) (S : Src 69 w0 v xs w g) (h8 : size ≤ 8) :
    Calls Tryz.prog 63 #[.pointer (some ⟨g, 0, none⟩), .int .i64 (size : Int)] w fun e w' => ∃ u L, e = .returned (.agg #[.int .i64 (L.length : Int), u]) ∧ L.length ≤ size ∧ Ow cI 2 w.heap.size w' u L ∧ Src 69 w0 v xs w' g ∧ w.grownBy w' (some g) := by
  have D := Lib.hid (Dg.start S)
  clear S
  go_enter Tryz.func63, Tryz.ntmps63
  have R0 := Blk.new w 26 #[.int .i64 0, .slice none 0 0]
  have HB : Hid (w.heap.size ≤ w.heap.size + 1) := Lib.hid (Nat.le_succ _)
  go_upto_region 1 with fail
  have hb := below_alloc' w (.cells #[.int .i64 0, .slice none 0 0] 26)
  have R := Lib.hid R0
  clear R0
  replace D := Lib.hid (D.out.below hb)
  clear hb
  generalize World.alloc w _ = W at *
  go_wp2_with fail
  refine (spec_l01Next _ _ _ _ _ ((size : Int) + 1) D.out.S (by omega) (by omega)).mono ?_
  rintro e w1 ⟨n, rfl, hn, hS, hg, -⟩
  replace R := Lib.hid (D.out.blk R.out (Nat.le_refl _) hg)
  replace D := Lib.hid (D.out.call hS hg)
  clear hS hg
  have hn : n ≤ size := by omega
  go_upto_region 3 with fail
  have hb := below_alloc' w1 (.cells #[] 2)
  have OA : Hid (Ow cI 2 (w.heap.size + 1) (World.alloc w1 (.cells #[] 2)) (.slice (some ⟨w1.heap.size, 0, none⟩) 0 0) (li [])) := Lib.hid (Ow.lit [] rfl rfl R.out.lt)
  replace R := Lib.hid (R.out.below hb R.out.lt)
  replace D := Lib.hid (D.out.below hb)
  clear hb
  generalize World.alloc w1 _ = W2 at *
  go_wp2_with fail
  refine (spec_l01Next _ _ _ _ _ 3 D.out.S (by decide) (by decide)).mono ?_
  rintro e w2 ⟨thin, rfl, hthin, hS, hg, -⟩
  replace OA := Lib.hid (D.out.passB OA.out HB.out hg)
  replace R := Lib.hid (D.out.blk R.out (Nat.le_refl _) hg)
  replace D := Lib.hid (D.out.call hS hg)
  clear hS hg
  obtain ⟨F, hF⟩ : ∃ F, F = 2 ^ n - 1 := ⟨_, rfl⟩
  have hp2 : 2 ^ n ≤ 256 := two_pow_256 (by omega)
  have hp1 : 0 < 2 ^ n := Nat.pow_pos (by decide)
  obtain ⟨P, hP⟩ : ∃ P, P = 2 ^ n := ⟨_, rfl⟩
  rw [← hP] at hp1 hp2 hF
  have hFP : F + 1 = P := by omega
  have HF := Lib.hid (show F = 2 ^ n - 1 by rw [hF, hP])
  have HP := Lib.hid hP
  clear hF hP
  have hn8 : n ≤ 8 := by omega
  go_wp2
  go_loopw [6, 8] (fun a i wr => ∃ (j : Nat) (ms : List Nat), j ≤ n ∧ i = .int .i64 (j : Int) ∧ ms.length = j ∧ (∀ m ∈ ms, m < P) ∧ Ow cI 2 (w.heap.size + 1) wr a (li ms) ∧ Dg w0 v xs g w wr ∧ Blk wr w.heap.size 26 #[.int .i64 0, .slice none 0 0]) (fun _ i _ => n - (intOf i).toNat)
  case atStart => exact ⟨0, [], Nat.zero_le _, rfl, rfl, by simp, OA.out, D.out, R.out⟩
  case round =>
    clear OA D R
    obtain ⟨j, ms, hj, rfl, hml, hms, OA, D, R⟩ := hrel
    obtain ⟨Aa, ca, rfl⟩ := OA.opn
    rw [li_length, hml] at OA ⊢
    replace OA := Lib.hid OA
    replace D := Lib.hid D
    replace R := Lib.hid R
    replace hms := Lib.hid hms
    by_cases hlt : j < n
    · have HML := Lib.hid hml
      clear hml
      go_wp2_with fail
      refine (spec_l01Full' n F HF.out _ (by omega)).mono ?_
      rintro e w3 ⟨rfl, rfl⟩
      go_wp2_with fail
      refine (spec_l01Next _ _ _ _ _ ((F : Int) + 1) D.out.S (by omega) (by omega)).mono ?_
      rintro e w4 ⟨m0, rfl, hm0, hS, hg, -⟩
      replace OA := Lib.hid (D.out.passB OA.out HB.out hg)
      replace R := Lib.hid (D.out.blk R.out (Nat.le_refl _) hg)
      replace D := Lib.hid (D.out.call hS hg)
      clear hS hg
      have hm0' : m0 < P := by omega
      clear hm0
      obtain ⟨F1, hF1⟩ : ∃ F1, F1 = 2 ^ (j + 1) - 1 := ⟨_, rfl⟩
      have hF1b : F1 < 9223372036854775808 := by have := two_pow_lt (show j + 1 ≤ 62 by omega); omega
      have HF1 := Lib.hid hF1
      clear hF1
      have HE := Lib.hid (i64_andNot_nat m0 F1 (by omega) hF1b)
      have hA : andnot m0 F1 < P := by rw [HP.out]; exact andnot_lt (by rw [← HP.out]; exact hm0')
      generalize andnot m0 F1 = m9 at *
      go_wp2_with fail
      refine (show Calls Tryz.prog 38 #[.int .i64 ((j : Int) + 1)] w4 _ from spec_l01Full' (j + 1) F1 HF1.out _ (by omega)).mono ?_
      rintro e w88 ⟨rfl, rfl⟩
      clear hm0' hF1b
      go_wp2
      rw [HE.out]
      go_loopw [9, 10] (fun a i wq => ∃ (t m : Nat), i = .int .i64 (t : Int) ∧ t ≤ thin ∧ a = .int .i64 (m : Int) ∧ m < P ∧ Ow cI 2 (w.heap.size + 1) wq (.slice Aa j ca) (li ms) ∧ Dg w0 v xs g w wq ∧ Blk wq w.heap.size 26 #[.int .i64 0, .slice none 0 0]) (fun _ i _ => thin - (intOf i).toNat)
      case atStart => exact ⟨0, m9, rfl, Nat.zero_le _, rfl, hA, OA.out, D.out, R.out⟩
      case round =>
        clear OA D R hA HE
        obtain ⟨t, m, rfl, ht, rfl, hm, OA, D, R⟩ := hrel
        replace OA := Lib.hid OA
        replace D := Lib.hid D
        replace R := Lib.hid R
        by_cases htt : t < thin
        · skip
          go_wp2_with fail
          refine (spec_l01Full' n F HF.out _ (by omega)).mono ?_
          rintro e w5 ⟨rfl, rfl⟩
          go_wp2_with fail
          refine (spec_l01Next _ _ _ _ _ ((F : Int) + 1) D.out.S (by omega) (by omega)).mono ?_
          rintro e w6 ⟨m1, rfl, hm1, hS, hg, -⟩
          replace OA := Lib.hid (D.out.passB OA.out HB.out hg)
          replace R := Lib.hid (D.out.blk R.out (Nat.le_refl _) hg)
          replace D := Lib.hid (D.out.call hS hg)
          clear hS hg
          have eA := i64_and_nat m m1 (by omega) (by omega)
          have hA : m &&& m1 < P := Nat.lt_of_le_of_lt Nat.and_le_left hm
          have HE := Lib.hid eA
          have HA := Lib.hid hA
          clear eA hA hm1
          generalize m &&& m1 = m2 at *
          go_wp2
          rw [HE.out]
          exact ⟨⟨t + 1, m2, by go_num, by omega, rfl, HA.out, OA.out, D.out, R.out⟩, by simp [intOf]; omega⟩
        · skip
          have bsz : w.heap.size + 1 ≤ _ := R.out.lt
          go_wp2_with (at_builtin; refine stopHere ?_)
          refine goHere ?_
          refine ap_one (K := cI) _ ty_int64 rfl _ _ rfl (B := w.heap.size + 1) (v := .slice Aa j ca) (xs := li ms) rfl OA.out (m : Int) rfl rfl (by rw [li_length, HML.out]; omega) bsz ?_
          intro v1 w9 ho1 hg1 hb1 hat1
          rw [← li_snoc] at ho1
          have D9 := Lib.hid (D.out.grown (grown_alloc _ hg1) (fun q e => by have := OA.out.block q e; omega))
          have R9 := Lib.hid (R.out.grown (grown_alloc _ hg1) (fun e => by have := OA.out.block _ e.symm; omega))
          have O9 := Lib.hid ho1
          obtain ⟨A9, c9, hv9⟩ := ho1.opn
          rw [li_length, List.length_append, List.length_singleton, HML.out] at hv9
          subst hv9
          clear ho1 hg1 hb1 hat1
          have HMM : Hid ((ms ++ [m]).length = j + 1 ∧ ∀ y ∈ ms ++ [m], y < P) := Lib.hid ⟨by rw [List.length_append, HML.out]; rfl, fun y hy => (List.mem_append.1 hy).elim (hms.out y) (fun h => by rw [List.mem_singleton.1 h]; exact hm)⟩
          go_wp2
          exact ⟨⟨j + 1, ms ++ [m], by omega, by go_num, HMM.out.1, HMM.out.2, O9.out, D9.out, R9.out⟩, by simp [intOf]; omega⟩
    · obtain rfl : j = n := by omega
      have hr : RelN ms := ⟨by omega, by rw [hml, ← HP.out]; exact hms.out⟩
      have HR := Lib.hid hr
      clear hr hms
      go_wp2_with fail
      refine (spec_l01Reflexive _ ms _ OA.out.sl HR.out).mono ?_
      rintro e w7 ⟨u2, rfl, OC, hb⟩
      replace OC := Lib.hid (OC.mono (R.out.lt))
      replace OA := Lib.hid (OA.out.below hb)
      replace R := Lib.hid (R.out.below hb R.out.lt)
      replace D := Lib.hid (D.out.below hb)
      clear hb
      have hml3 : (rfx ms).length = j := by rw [rfx_length, hml]
      have HRC := Lib.hid (rfx_rel HR.out)
      generalize rfx ms = mc at *
      go_wp2_with fail
      refine (spec_l01Closure _ mc _ OC.out.sl HRC.out).mono ?_
      rintro e w8 ⟨u3, rfl, OD, hb⟩
      replace OD := Lib.hid (OD.mono (R.out.lt))
      replace OA := Lib.hid (OA.out.below hb)
      replace OC := Lib.hid (OC.out.below hb)
      replace R := Lib.hid (R.out.below hb R.out.lt)
      replace D := Lib.hid (D.out.below hb)
      clear hb
      have hml4 : (clo mc mc.length).length = j := by rw [clo_length, hml3]
      have HRD := Lib.hid (clo_rel HRC.out)
      generalize clo mc mc.length = md at *
      go_wp2_with fail
      refine (spec_l01Next _ _ _ _ _ 2 D.out.S (by decide) (by decide)).mono ?_
      rintro e w9 ⟨k2, rfl, hk2, hS, hg, -⟩
      replace OA := Lib.hid (D.out.passB OA.out HB.out hg)
      replace OC := Lib.hid (D.out.passB OC.out HB.out hg)
      replace OD := Lib.hid (D.out.passB OD.out HB.out hg)
      replace R := Lib.hid (D.out.blk R.out (Nat.le_refl _) hg)
      replace D := Lib.hid (D.out.call hS hg)
      clear hS hg
      cases t0 : ((k2 : Int) == 0)
      · clear hk2
        go_wp2_with fail
        refine (spec_l16Shuffle _ _ _ _ _ j D.out.S (by omega)).mono ?_
        rintro e w10 ⟨u4, os, rfl, hol, hos, OS, hS, hg⟩
        replace OS := Lib.hid (OS.mono (R.out.lt))
        replace OA := Lib.hid (D.out.passB OA.out HB.out hg)
        replace OC := Lib.hid (D.out.passB OC.out HB.out hg)
        replace OD := Lib.hid (D.out.passB OD.out HB.out hg)
        replace R := Lib.hid (D.out.blk R.out (Nat.le_refl _) hg)
        replace D := Lib.hid (D.out.call hS hg)
        clear hS hg
        have HOS := Lib.hid (show ∀ x ∈ os, x < md.length by rw [hml4]; exact hos)
        clear hos
        go_wp2_with fail
        refine (spec_l05Renumber _ _ md os _ OD.out.sl OS.out.sl HRD.out (by omega) HOS.out).mono ?_
        rintro e w11 ⟨u5, L5, rfl, hl5, OR, hb⟩
        replace OR := Lib.hid (OR.mono (R.out.lt))
        replace OA := Lib.hid (OA.out.below hb)
        replace OC := Lib.hid (OC.out.below hb)
        replace OD := Lib.hid (OD.out.below hb)
        replace OS := Lib.hid (OS.out.below hb)
        replace R := Lib.hid (R.out.below hb R.out.lt)
        replace D := Lib.hid (D.out.below hb)
        clear hb
        have HL5 := Lib.hid (show L5.length ≤ size by omega)
        clear hl5 hol
        go_wp2_with fail
        refine (spec_l16Make _ L5 _ OR.out.sl (by have := HL5.out; omega)).mono ?_
        rintro e w12 ⟨A6, c6, rfl, OF, hb⟩
        replace OF := Lib.hid (OF.mono (R.out.lt))
        replace OA := Lib.hid (OA.out.below hb)
        replace OC := Lib.hid (OC.out.below hb)
        replace OD := Lib.hid (OD.out.below hb)
        replace OS := Lib.hid (OS.out.below hb)
        replace OR := Lib.hid (OR.out.below hb)
        replace R := Lib.hid (R.out.below hb R.out.lt)
        replace D := Lib.hid (D.out.below hb)
        clear hb
        have kr := R.out.cell
        have fr := R.out.frozen
        have lr := R.out.lt
        go_wp2
        refine bodyPost_ret (v := .agg #[.int .i64 (L5.length : Int), .slice A6 L5.length c6]) (by simp [results, Tryz.results63, go_sem, kr, fr, lr]) rfl ⟨_, L5, rfl, HL5.out, ?_, ?_, ?_⟩
        · exact ((OF.out.setBelow (p := ⟨w.heap.size, 0, none⟩) (Nat.lt_succ_self _) _).setBelow (p := ⟨w.heap.size, 1, none⟩) (Nat.lt_succ_self _) _).mono HB.out
        · exact ((D.out.set (p := ⟨w.heap.size, 0, none⟩) (Nat.le_refl _) _).set (p := ⟨w.heap.size, 1, none⟩) (Nat.le_refl _) _).S
        · exact ((D.out.set (p := ⟨w.heap.size, 0, none⟩) (Nat.le_refl _) _).set (p := ⟨w.heap.size, 1, none⟩) (Nat.le_refl _) _).gr
      · clear hk2
        go_wp2_with fail
        refine (spec_l16Make _ (li md) _ OD.out.sl (by rw [li_length]; omega)).mono ?_
        rintro e w13 ⟨A6, c6, rfl, OF, hb⟩
        replace OF := Lib.hid (OF.mono (R.out.lt))
        replace OA := Lib.hid (OA.out.below hb)
        replace OC := Lib.hid (OC.out.below hb)
        replace OD := Lib.hid (OD.out.below hb)
        replace R := Lib.hid (R.out.below hb R.out.lt)
        replace D := Lib.hid (D.out.below hb)
        clear hb
        have kr := R.out.cell
        have fr := R.out.frozen
        have lr := R.out.lt
        go_wp2
        refine bodyPost_ret (v := .agg #[.int .i64 ((li md).length : Int), .slice A6 (li md).length c6]) (by simp [results, Tryz.results63, go_sem, kr, fr, lr]) rfl ⟨_, (li md), rfl, by rw [li_length]; omega, ?_, ?_, ?_⟩
        · exact ((OF.out.setBelow (p := ⟨w.heap.size, 0, none⟩) (Nat.lt_succ_self _) _).setBelow (p := ⟨w.heap.size, 1, none⟩) (Nat.lt_succ_self _) _).mono HB.out
        · exact ((D.out.set (p := ⟨w.heap.size, 0, none⟩) (Nat.le_refl _) _).set (p := ⟨w.heap.size, 1, none⟩) (Nat.le_refl _) _).S
        · exact ((D.out.set (p := ⟨w.heap.size, 0, none⟩) (Nat.le_refl _) _).set (p := ⟨w.heap.size, 1, none⟩) (Nat.le_refl _) _).gr
set_option maxRecDepth 100000 in
set_option maxHeartbeats 4000000 in
theorem spec_l16Rooted (w0 : World) (v : Value) (xs : List (Fin 256)) (w : World) (g : Nat) (size : Nat) (S : Src 69 w0 v xs w g) (h8 : size ≤ 8) (h1 : 1 ≤ size) :
    Calls Tryz.prog 64 #[.pointer (some ⟨g, 0, none⟩), .int .i64 (size : Int)] w fun e w' => ∃ u L, e = .returned (.agg #[.int .i64 (L.length : Int), u]) ∧ L.length ≤ size ∧ Ow cI 2 w.heap.size w' u L ∧ Src 69 w0 v xs w' g ∧ w.grownBy w' (some g) := by
  obtain ⟨k, rfl⟩ : ∃ k, size = k + 1 := ⟨size - 1, by omega⟩
  have D := Lib.hid (Dg.start S)
  clear S
  go_enter Tryz.func64, Tryz.ntmps64
  have R0 := Blk.new w 26 #[.int .i64 0, .slice none 0 0]
  have HB : Hid (w.heap.size ≤ w.heap.size + 1) := Lib.hid (Nat.le_succ _)
  go_upto_region 1 with fail
  have hb := below_alloc' w (.cells #[.int .i64 0, .slice none 0 0] 26)
  have R := Lib.hid R0
  clear R0
  replace D := Lib.hid (D.out.below hb)
  clear hb
  generalize World.alloc w _ = W at *
  go_wp2_with fail
  have hb := below_alloc' W (.cells #[.int .i64 1] 2)
  have OL : Hid (Ow cI 2 (w.heap.size + 1) (World.alloc W (.cells #[.int .i64 1] 2)) (.slice (some ⟨W.heap.size, 0, none⟩) 1 1) [1]) := Lib.hid (Ow.lit [1] rfl rfl R.out.lt)
  replace R := Lib.hid (R.out.below hb R.out.lt)
  replace D := Lib.hid (D.out.below hb)
  clear hb
  generalize World.alloc W _ = Wl at *
  refine (spec_l16Make _ [1] _ OL.out.sl (by simp)).mono ?_
  rintro e w1 ⟨A3, c3, rfl, OP, hb⟩
  replace OP := Lib.hid (OP.mono (R.out.lt))
  replace OL := Lib.hid (OL.out.below hb)
  replace R := Lib.hid (R.out.below hb R.out.lt)
  replace D := Lib.hid (D.out.below hb)
  clear hb
  go_wp2_with fail
  first | rw [show (((k + 1 : Nat) : Int) - 1) = (k : Int) by omega] | rw [show ((k : Int) + 1 - 1) = (k : Int) by omega] | skip
  refine (spec_l16Some _ _ _ _ _ k D.out.S (by omega)).mono ?_
  rintro e w2 ⟨u, L, rfl, hl, O, hS, hg⟩
  replace O := Lib.hid (O.mono (R.out.lt))
  replace OL := Lib.hid (D.out.passB OL.out HB.out hg)
  replace OP := Lib.hid (D.out.passB OP.out HB.out hg)
  replace R := Lib.hid (D.out.blk R.out (Nat.le_refl _) hg)
  replace D := Lib.hid (D.out.call hS hg)
  clear hS hg
  obtain ⟨A4, c4, rfl⟩ := O.out.opn
  go_wp2_with fail
  refine (spec_l16Join L.length _ _ [1] L _ OP.out.sl O.out.sl (by simp) (by omega) (by omega)).mono ?_
  rintro e w3 ⟨u5, L5, rfl, hl5, OJ, hb⟩
  replace OJ := Lib.hid (OJ.mono (R.out.lt))
  replace OL := Lib.hid (OL.out.below hb)
  replace OP := Lib.hid (OP.out.below hb)
  replace O := Lib.hid (O.out.below hb)
  replace R := Lib.hid (R.out.below hb R.out.lt)
  replace D := Lib.hid (D.out.below hb)
  clear hb
  have hl6 : L5.length ≤ k + 1 := by rw [hl5, List.length_singleton]; omega
  obtain ⟨A6, c6, rfl⟩ := OJ.out.opn
  clear hl5
  have kr := R.out.cell
  have fr := R.out.frozen
  have lr := R.out.lt
  go_wp2
  refine bodyPost_ret (v := .agg #[.int .i64 (L5.length : Int), .slice A6 L5.length c6]) (by simp [results, Tryz.results64, go_sem, kr, fr, lr]) rfl ⟨_, L5, rfl, by omega, ?_, ?_, ?_⟩
  · exact ((OJ.out.setBelow (p := ⟨w.heap.size, 0, none⟩) (Nat.lt_succ_self _) _).setBelow (p := ⟨w.heap.size, 1, none⟩) (Nat.lt_succ_self _) _).mono HB.out
  · exact ((D.out.set (p := ⟨w.heap.size, 0, none⟩) (Nat.le_refl _) _).set (p := ⟨w.heap.size, 1, none⟩) (Nat.le_refl _) _).S
  · exact ((D.out.set (p := ⟨w.heap.size, 0, none⟩) (Nat.le_refl _) _).set (p := ⟨w.heap.size, 1, none⟩) (Nat.le_refl _) _).gr
/- The reference's drawing functions of posets, by the shape of what they draw (written by program, gendr9.py). -/
set_option maxRecDepth 100000 in
set_option maxHeartbeats 800000 in
theorem spec_l16Draw (w0 : World) (v : Value) (xs : List (Fin 256)) (w : World) (g : Nat) (size : Nat) (S : Src 69 w0 v xs w g) (h8 : size ≤ 8) (h1 : 1 ≤ size) :
    Calls Tryz.prog 35 #[.pointer (some ⟨g, 0, none⟩), .int .i64 (size : Int)] w fun e w' => ∃ (n : Int) (u : Value) (L : List Int), e = .returned (.agg #[.int .i64 n, u]) ∧ n ≤ 1000 ∧ L.length ≤ 9 ∧ Ow cI 2 w.heap.size w' u L ∧ Src 69 w0 v xs w' g ∧ w.grownBy w' (some g) := by
  have D := Lib.hid (Dg.start S)
  clear S
  go_enter Tryz.func35, Tryz.ntmps35
  have R0 := Blk.new w 26 #[.int .i64 0, .slice none 0 0]
  have HB : Hid (w.heap.size ≤ w.heap.size + 1) := Lib.hid (Nat.le_succ _)
  go_upto_region 1 with fail
  have hb := below_alloc' w (.cells #[.int .i64 0, .slice none 0 0] 26)
  have R := Lib.hid R0
  clear R0
  replace D := Lib.hid (D.out.below hb)
  clear hb
  generalize World.alloc w _ = W at *
  go_wp2_with fail
  refine (spec_l16Some _ _ _ _ _ size D.out.S h8).mono ?_
  rintro e w1 ⟨u, L, rfl, hn, O, hS, hg⟩
  replace O := Lib.hid (O.mono (R.out.lt))
  replace R := Lib.hid (D.out.blk R.out (Nat.le_refl _) hg)
  replace D := Lib.hid (D.out.call hS hg)
  clear hS hg
  obtain ⟨A, c, rfl⟩ := O.out.opn
  have NB := Lib.hid (O.out.block)
  go_upto_region 2 with fail
  have hb := below_alloc' w1 (.cells #[.int .i64 (L.length : Int), .slice A L.length c] 26)
  have F := Lib.hid (Blk.new w1 26 #[.int .i64 (L.length : Int), .slice A L.length c])
  have ZF : Hid (w.heap.size + 1 ≤ w1.heap.size) := Lib.hid R.out.lt
  replace O := Lib.hid (O.out.below hb)
  replace R := Lib.hid (R.out.below hb R.out.lt)
  replace D := Lib.hid (D.out.below hb)
  clear hb
  obtain ⟨fb, hfb⟩ : ∃ b, w1.heap.size = b := ⟨_, rfl⟩
  generalize hW2 : World.alloc w1 _ = WF at *
  rw [hfb] at F ZF ⊢
  have NF : Hid (∀ k, (Value.slice A L.length c).ownBlock = some k → k < fb) := Lib.hid (fun k hk => by have := (NB.out k hk).2; omega)
  clear NB
  clear hW2 hfb
  go_wp2_with fail
  refine (spec_l01Next _ _ _ _ _ 3 D.out.S (by decide) (by decide)).mono ?_
  rintro e w2 ⟨kr3, rfl, hkr3, hS, hg, -⟩
  replace O := Lib.hid (D.out.passB O.out HB.out hg)
  replace R := Lib.hid (D.out.blk R.out (Nat.le_refl _) hg)
  replace F := Lib.hid (D.out.blk F.out (Nat.le_of_succ_le ZF.out) hg)
  replace D := Lib.hid (D.out.call hS hg)
  clear hS hg
  cases tr : ((kr3 : Int) == 0)
  · have NE : Hid (∀ k, (Value.slice A L.length c).ownBlock = some k → k ≠ fb) := Lib.hid (fun k hk e => by have := NF.out k hk; omega)
    clear NF hkr3
    go_wp2_with fail
    refine (spec_l01Next _ _ _ _ _ 40 D.out.S (by decide) (by decide)).mono ?_
    rintro e w3 ⟨k, rfl, hk, hS, hg, -⟩
    replace O := Lib.hid (D.out.passB O.out HB.out hg)
    replace R := Lib.hid (D.out.blk R.out (Nat.le_refl _) hg)
    replace F := Lib.hid (D.out.blk F.out (Nat.le_of_succ_le ZF.out) hg)
    replace D := Lib.hid (D.out.call hS hg)
    clear hS hg
    cases t0 : ((k : Int) == 0)
    · cases t1 : ((k : Int) == 1)
      · cases t2 : ((k : Int) == 2)
        · clear hk
          have kr := R.out.cell
          have fr := R.out.frozen
          have lr := R.out.lt
          have kf := F.out.cell
          have lf := F.out.lt
          go_wp2
          refine bodyPost_ret (v := .agg #[.int .i64 (L.length : Int), .slice A L.length c]) (by simp [results, Tryz.results35, go_sem, kr, fr, lr]) rfl ⟨_, _, L, rfl, by omega, by omega, ?_, ?_, ?_⟩
          · exact ((O.out.setBelow (p := ⟨w.heap.size, 0, none⟩) (Nat.lt_succ_self _) _).setBelow (p := ⟨w.heap.size, 1, none⟩) (Nat.lt_succ_self _) _).mono HB.out
          · exact ((D.out.set (p := ⟨w.heap.size, 0, none⟩) (Nat.le_refl _) _).set (p := ⟨w.heap.size, 1, none⟩) (Nat.le_refl _) _).S
          · exact ((D.out.set (p := ⟨w.heap.size, 0, none⟩) (Nat.le_refl _) _).set (p := ⟨w.heap.size, 1, none⟩) (Nat.le_refl _) _).gr
        · clear hk
          by_cases hpos : 0 < L.length
          · skip
            obtain ⟨F2, hF2⟩ : ∃ F2, F2 = 2 ^ L.length - 1 := ⟨_, rfl⟩
            have hp2 := two_pow_256 (show L.length ≤ 8 by omega)
            have hF256 : F2 < 256 := by have := Nat.pow_pos (n := L.length) (show 0 < 2 by decide); omega
            have HF2 := Lib.hid hF2
            clear hF2 hp2
            have kf := F.out.cell
            go_upto_region 11 with fail
            have hb := (Below.refl w3.heap.size w3).drew
            replace O := Lib.hid (O.out.below hb)
            replace R := Lib.hid (R.out.below hb R.out.lt)
            replace F := Lib.hid (F.out.below hb F.out.lt)
            replace D := Lib.hid (D.out.below hb)
            clear hb
            have hI : (fun X : World => X.cell? ⟨fb, 0, none⟩ = some (.int .i64 (L.length : Int)) ∧ X.cell? ⟨fb, 1, none⟩ = some (.slice A L.length c)) (World.drew w3) := ⟨F.out.cell 0, F.out.cell 1⟩
            refine wp_region_sched (fun X => X.cell? ⟨fb, 0, none⟩ = some (.int .i64 (L.length : Int)) ∧ X.cell? ⟨fb, 1, none⟩ = some (.slice A L.length c)) 13 [0, 1, 2, 3, 4, 6, 7, 8, 10, 12] [0, 1, 2, 3, 4, 6, 7, 8, 5, 9, 10, 11, 12] (by kernel_rfl) (by kernel_rfl) hI ?_
            generalize World.drew w3 = w3d at *
            clear kf
            repeat
              apply wpSched_q rfl rfl
              case h =>
                intro w' hI K hK
                have cc0 : w'.cell? ⟨fb, 0, none⟩ = some (.int .i64 (L.length : Int)) := hI.1
                have cc1 : w'.cell? ⟨fb, 1, none⟩ = some (.slice A L.length c) := hI.2
                simp only [quietV, stillV]
                go_simp
                exact hK
              go_simp
            refine wpSched_r rfl rfl ?_ hI
            intro K hK _
            go_simp
            refine (spec_l01Next _ _ _ _ _ (L.length : Int) D.out.S (by omega) (by omega)).mono ?_
            rintro e w4 ⟨k1, rfl, hk1, hS, hg, -⟩
            replace O := Lib.hid (D.out.passB O.out HB.out hg)
            replace R := Lib.hid (D.out.blk R.out (Nat.le_refl _) hg)
            replace F := Lib.hid (D.out.blk F.out (Nat.le_of_succ_le ZF.out) hg)
            replace D := Lib.hid (D.out.call hS hg)
            clear hS hg
            have hk1' : k1 < L.length := by omega
            clear hk1
            clear hI
            have hI : (fun X : World => X.cell? ⟨fb, 0, none⟩ = some (.int .i64 (L.length : Int)) ∧ X.cell? ⟨fb, 1, none⟩ = some (.slice A L.length c)) w4 := ⟨F.out.cell 0, F.out.cell 1⟩
            refine hK _ _ hI ?_
            clear hK K
            repeat
              apply wpSched_q rfl rfl
              case h =>
                intro w' hI K hK
                have cc0 : w'.cell? ⟨fb, 0, none⟩ = some (.int .i64 (L.length : Int)) := hI.1
                have cc1 : w'.cell? ⟨fb, 1, none⟩ = some (.slice A L.length c) := hI.2
                simp only [quietV, stillV]
                go_simp
                exact hK
              go_simp
            refine wpSched_r rfl rfl ?_ hI
            intro K hK _
            go_simp
            refine (spec_l01Full' L.length F2 HF2.out _ (by omega)).mono ?_
            rintro e w8 ⟨rfl, rfl⟩
            clear hI
            have hI : (fun X : World => X.cell? ⟨fb, 0, none⟩ = some (.int .i64 (L.length : Int)) ∧ X.cell? ⟨fb, 1, none⟩ = some (.slice A L.length c)) w4 := ⟨F.out.cell 0, F.out.cell 1⟩
            refine hK _ _ hI ?_
            clear hK K
            repeat
              apply wpSched_q rfl rfl
              case h =>
                intro w' hI K hK
                have cc0 : w'.cell? ⟨fb, 0, none⟩ = some (.int .i64 (L.length : Int)) := hI.1
                have cc1 : w'.cell? ⟨fb, 1, none⟩ = some (.slice A L.length c) := hI.2
                simp only [quietV, stillV]
                go_simp
                exact hK
              go_simp
            refine wpSched_r rfl rfl ?_ hI
            intro K hK _
            go_simp
            rw [show IntKind.i64.wrap ((F2 : Int) + 2) = (F2 : Int) + 2 from IntWalk.i64_in _ ⟨by omega, by omega⟩]
            refine (spec_l01Next _ _ _ _ _ ((F2 : Int) + 2) D.out.S (by omega) (by omega)).mono ?_
            rintro e w5 ⟨y, rfl, hy, hS, hg, -⟩
            replace O := Lib.hid (D.out.passB O.out HB.out hg)
            replace R := Lib.hid (D.out.blk R.out (Nat.le_refl _) hg)
            replace F := Lib.hid (D.out.blk F.out (Nat.le_of_succ_le ZF.out) hg)
            replace D := Lib.hid (D.out.call hS hg)
            clear hS hg
            have hyb : (y : Int) < 300 := by omega
            clear hy
            clear hI
            have hI : (fun X : World => X.cell? ⟨fb, 0, none⟩ = some (.int .i64 (L.length : Int)) ∧ X.cell? ⟨fb, 1, none⟩ = some (.slice A L.length c)) w5 := ⟨F.out.cell 0, F.out.cell 1⟩
            refine hK _ _ hI ?_
            clear hK K
            obtain ⟨ga, cc, hv, gB, gl, -⟩ := O.out.form hpos
            injection hv with hA hN hC
            subst hA
            subst hC
            clear hN
            repeat
              apply wpSched_q rfl rfl
              case h =>
                intro w' hI K hK
                simp only [quietV, stillV]
                go_simp
                exact hK
              go_simp
            refine wpSched_nil ?_
            try simp only [List.drop_succ_cons, List.drop_zero, List.drop_nil]
            try rw [show IntKind.i64.wrap ((y : Int) - 1) = (y : Int) - 1 from IntWalk.i64_in _ ⟨by omega, by omega⟩]
            obtain ⟨c2, f2, -, -⟩ := O.out.at1 rfl hk1' rfl
            have O9 := Lib.hid (O.out.set1 (j := k1) (x := ((y : Int) - 1)) (u := .int .i64 ((y : Int) - 1)) rfl rfl hk1')
            have L9 : Hid ((L.set k1 ((y : Int) - 1)).length ≤ 9) := Lib.hid (by rw [List.length_set]; omega)
            have D9 := Lib.hid (D.out.set (p := ⟨ga, k1, none⟩) (show w.heap.size ≤ ga by omega) (.int .i64 ((y : Int) - 1)))
            have gne : ga ≠ fb := NE.out ga rfl
            have F9 := Lib.hid (F.out.far (p := ⟨ga, k1, none⟩) (fun e => by have eq : fb = ga := e; omega) (.int .i64 ((y : Int) - 1)))
            have R9 := Lib.hid (R.out.far (p := ⟨ga, k1, none⟩) (fun e => by have eq : w.heap.size = ga := e; omega) (.int .i64 ((y : Int) - 1)))
            clear hI O D F R
            have O := O9
            have D := D9
            have F := F9
            have R := R9
            clear O9 D9 F9 R9
            have kf := F.out.cell
            have lf := F.out.lt
            go_upto_region 12 with fail
            generalize World.setCell w5 _ _ = W9 at *
            clear kf lf c2 f2
            have kr := R.out.cell
            have fr := R.out.frozen
            have lr := R.out.lt
            have kf := F.out.cell
            have lf := F.out.lt
            go_wp2
            refine bodyPost_ret (v := .agg #[.int .i64 (L.length : Int), .slice (some ⟨ga, 0, none⟩) L.length c]) (by simp [results, Tryz.results35, go_sem, kr, fr, lr]) rfl ⟨_, _, (L.set k1 ((y : Int) - 1)), rfl, by omega, L9.out, ?_, ?_, ?_⟩
            · exact ((O.out.setBelow (p := ⟨w.heap.size, 0, none⟩) (Nat.lt_succ_self _) _).setBelow (p := ⟨w.heap.size, 1, none⟩) (Nat.lt_succ_self _) _).mono HB.out
            · exact ((D.out.set (p := ⟨w.heap.size, 0, none⟩) (Nat.le_refl _) _).set (p := ⟨w.heap.size, 1, none⟩) (Nat.le_refl _) _).S
            · exact ((D.out.set (p := ⟨w.heap.size, 0, none⟩) (Nat.le_refl _) _).set (p := ⟨w.heap.size, 1, none⟩) (Nat.le_refl _) _).gr
          · have hz : L.length = 0 := by omega
            have kf := F.out.cell
            go_upto_region 12 with fail
            clear kf hz
            have kr := R.out.cell
            have fr := R.out.frozen
            have lr := R.out.lt
            have kf := F.out.cell
            have lf := F.out.lt
            go_wp2
            refine bodyPost_ret (v := .agg #[.int .i64 (L.length : Int), .slice A L.length c]) (by simp [results, Tryz.results35, go_sem, kr, fr, lr]) rfl ⟨_, _, L, rfl, by omega, by omega, ?_, ?_, ?_⟩
            · exact ((O.out.setBelow (p := ⟨w.heap.size, 0, none⟩) (Nat.lt_succ_self _) _).setBelow (p := ⟨w.heap.size, 1, none⟩) (Nat.lt_succ_self _) _).mono HB.out
            · exact ((D.out.set (p := ⟨w.heap.size, 0, none⟩) (Nat.le_refl _) _).set (p := ⟨w.heap.size, 1, none⟩) (Nat.le_refl _) _).S
            · exact ((D.out.set (p := ⟨w.heap.size, 0, none⟩) (Nat.le_refl _) _).set (p := ⟨w.heap.size, 1, none⟩) (Nat.le_refl _) _).gr
      · clear hk
        have kf := F.out.cell
        have lf := F.out.lt
        go_wp2_with fail
        refine (spec_l01Own _ L _ O.out.sl (by omega)).mono ?_
        rintro e w6 ⟨u2, rfl, O2, hb⟩
        have N2 : Hid (∀ k, u2.ownBlock = some k → fb < k) := Lib.hid (fun k hk => by have := (O2.block k hk).1; have := F.out.lt; omega)
        replace O2 := Lib.hid (O2.mono (R.out.lt))
        replace O := Lib.hid (O.out.below hb)
        replace R := Lib.hid (R.out.below hb R.out.lt)
        replace F := Lib.hid (F.out.below hb F.out.lt)
        replace D := Lib.hid (D.out.below hb)
        clear hb
        clear kf lf
        obtain ⟨A2, c2, rfl⟩ := O2.out.opn
        have bsz : w.heap.size + 1 ≤ _ := R.out.lt
        go_wp2_with (at_builtin; refine stopHere ?_)
        refine goHere ?_
        refine ap_one (K := cI) _ ty_int64 rfl _ _ rfl (B := w.heap.size + 1) (v := .slice A2 L.length c2) (xs := L) rfl O2.out (0 : Int) rfl rfl (by omega) bsz ?_
        intro v1 w9 ho1 hg1 hb1 hat1
        have ne1 : v1.ownBlock ≠ some fb := by
          intro e
          have hlt := F.out.lt
          rcases hat1 with h1 | h1
          · have := N2.out fb (h1 ▸ e); omega
          · rw [h1] at e; injection e with e; omega
        have D9 := Lib.hid ((D.out.grown (grown_alloc _ hg1) (fun q e => by have := (O2.out.block q e).1; omega)).set (p := ⟨fb, 1, none⟩) (Nat.le_of_succ_le ZF.out) v1)
        have F8 := F.out.grown (grown_alloc _ hg1) (fun e => by have := N2.out fb e.symm; omega)
        have R9 := Lib.hid ((R.out.grown (grown_alloc _ hg1) (fun e => by have := (O2.out.block _ e.symm).1; omega)).far (p := ⟨fb, 1, none⟩) (fun e => by have eq : w.heap.size = fb := e; have := ZF.out; omega) v1)
        have O9 := Lib.hid (ho1.far (p := ⟨fb, 1, none⟩) ne1 v1)
        have F9 := Lib.hid (F8.set_ 1 v1)
        obtain ⟨A9, c9, hv9⟩ := ho1.opn
        rw [List.length_append, List.length_singleton] at hv9
        subst hv9
        clear ho1 hg1 hb1 hat1 D F R O ne1
        have D := D9
        have F := F9
        have R := R9
        have O := O9
        clear D9 F9 R9 O9
        have L9 : Hid ((L ++ [0]).length ≤ 9) := Lib.hid (by rw [List.length_append, List.length_singleton]; omega)
        have kf := F8.cell
        have lf := F8.lt
        have ff := F8.frozen
        go_upto_region 12 with fail
        generalize World.setCell w9 _ _ = W9 at *
        clear kf lf ff F8
        have kr := R.out.cell
        have fr := R.out.frozen
        have lr := R.out.lt
        have kf := F.out.cell
        have lf := F.out.lt
        go_wp2
        refine bodyPost_ret (v := .agg #[.int .i64 (L.length : Int), .slice A9 (L.length + 1) c9]) (by simp [results, Tryz.results35, go_sem, kr, fr, lr]) rfl ⟨_, _, (L ++ [0]), rfl, by omega, L9.out, ?_, ?_, ?_⟩
        · exact ((O.out.setBelow (p := ⟨w.heap.size, 0, none⟩) (Nat.lt_succ_self _) _).setBelow (p := ⟨w.heap.size, 1, none⟩) (Nat.lt_succ_self _) _).mono HB.out
        · exact ((D.out.set (p := ⟨w.heap.size, 0, none⟩) (Nat.le_refl _) _).set (p := ⟨w.heap.size, 1, none⟩) (Nat.le_refl _) _).S
        · exact ((D.out.set (p := ⟨w.heap.size, 0, none⟩) (Nat.le_refl _) _).set (p := ⟨w.heap.size, 1, none⟩) (Nat.le_refl _) _).gr
    · clear hk
      have kf := F.out.cell
      have lf := F.out.lt
      go_wp2_with fail
      clear kf lf
      have hb := below_alloc' w3 (.cells #[.int .i64 (-1), .int .i64 9, .int .i64 ((L.length : Int) + 1)] 2)
      have OL : Hid (Ow cI 2 (w.heap.size + 1) (World.alloc w3 (.cells #[.int .i64 (-1), .int .i64 9, .int .i64 ((L.length : Int) + 1)] 2)) (.slice (some ⟨w3.heap.size, 0, none⟩) 3 3) [(-1), 9, ((L.length : Int) + 1)]) := Lib.hid (Ow.lit [(-1), 9, ((L.length : Int) + 1)] rfl rfl R.out.lt)
      replace O := Lib.hid (O.out.below hb)
      replace R := Lib.hid (R.out.below hb R.out.lt)
      replace F := Lib.hid (F.out.below hb F.out.lt)
      replace D := Lib.hid (D.out.below hb)
      clear hb
      generalize World.alloc w3 _ = w3l at *
      refine (spec_l01Pick _ _ _ _ _ _ [(-1), 9, ((L.length : Int) + 1)] D.out.S OL.out.sl (by have := OL.out; have hb2 := OL.out.block; exact .inr (fun e => by have := hb2 _ e; have := D.out.lt; omega)) (by simp) (by simp)).mono ?_
      rintro e w7 ⟨y, rfl, hy, hS, hg, -⟩
      clear OL
      replace O := Lib.hid (D.out.passB O.out HB.out hg)
      replace R := Lib.hid (D.out.blk R.out (Nat.le_refl _) hg)
      replace F := Lib.hid (D.out.blk F.out (Nat.le_of_succ_le ZF.out) hg)
      replace D := Lib.hid (D.out.call hS hg)
      clear hS hg
      have hy9 : y ≤ 1000 := by
        simp only [List.mem_cons, List.not_mem_nil, or_false] at hy
        omega
      clear hy
      have kf := F.out.cell
      have lf := F.out.lt
      have ff := F.out.frozen
      have D9 := Lib.hid (D.out.set (p := ⟨fb, 0, none⟩) (Nat.le_of_succ_le ZF.out) (.int .i64 y))
      have R9 := Lib.hid (R.out.far (p := ⟨fb, 0, none⟩) (fun e => by have eq : w.heap.size = fb := e; have := ZF.out; omega) (.int .i64 y))
      have O9 := Lib.hid (O.out.far (p := ⟨fb, 0, none⟩) (fun e => NE.out fb e rfl) (.int .i64 y))
      have F9 := Lib.hid (F.out.set_ 0 (.int .i64 y))
      go_upto_region 12 with fail
      generalize World.setCell w7 _ _ = W9 at *
      clear kf lf ff D F R O
      have D := D9
      have F := F9
      have R := R9
      have O := O9
      clear D9 F9 R9 O9
      have kr := R.out.cell
      have fr := R.out.frozen
      have lr := R.out.lt
      have kf := F.out.cell
      have lf := F.out.lt
      go_wp2
      refine bodyPost_ret (v := .agg #[.int .i64 y, .slice A L.length c]) (by simp [results, Tryz.results35, go_sem, kr, fr, lr]) rfl ⟨_, _, L, rfl, by omega, by omega, ?_, ?_, ?_⟩
      · exact ((O.out.setBelow (p := ⟨w.heap.size, 0, none⟩) (Nat.lt_succ_self _) _).setBelow (p := ⟨w.heap.size, 1, none⟩) (Nat.lt_succ_self _) _).mono HB.out
      · exact ((D.out.set (p := ⟨w.heap.size, 0, none⟩) (Nat.le_refl _) _).set (p := ⟨w.heap.size, 1, none⟩) (Nat.le_refl _) _).S
      · exact ((D.out.set (p := ⟨w.heap.size, 0, none⟩) (Nat.le_refl _) _).set (p := ⟨w.heap.size, 1, none⟩) (Nat.le_refl _) _).gr
  · clear NF O hkr3
    go_wp2_with fail
    refine (spec_l16Rooted _ _ _ _ _ size D.out.S h8 h1).mono ?_
    rintro e w8 ⟨u9, L9, rfl, hn9, O, hS, hg⟩
    have N9 : Hid (∀ k, u9.ownBlock = some k → fb < k) := Lib.hid (fun k hk => by have := (O.block k hk).1; have := F.out.lt; omega)
    replace O := Lib.hid (O.mono (R.out.lt))
    replace R := Lib.hid (D.out.blk R.out (Nat.le_refl _) hg)
    replace F := Lib.hid (D.out.blk F.out (Nat.le_of_succ_le ZF.out) hg)
    replace D := Lib.hid (D.out.call hS hg)
    clear hS hg
    obtain ⟨A9, c9, rfl⟩ := O.out.opn
    have NE : Hid (∀ k, (Value.slice A9 L9.length c9).ownBlock = some k → k ≠ fb) := Lib.hid (fun k hk e => by have := N9.out k hk; omega)
    clear N9
    have kf := F.out.cell
    have lf := F.out.lt
    have ff := F.out.frozen
    have D9 := Lib.hid ((D.out.set (p := ⟨fb, 0, none⟩) (Nat.le_of_succ_le ZF.out) (.int .i64 (L9.length : Int))).set (p := ⟨fb, 1, none⟩) (Nat.le_of_succ_le ZF.out) (.slice A9 L9.length c9))
    have R9 := Lib.hid ((R.out.far (p := ⟨fb, 0, none⟩) (fun e => by have eq : w.heap.size = fb := e; have := ZF.out; omega) (.int .i64 (L9.length : Int))).far (p := ⟨fb, 1, none⟩) (fun e => by have eq : w.heap.size = fb := e; have := ZF.out; omega) (.slice A9 L9.length c9))
    have O9 := Lib.hid ((O.out.far (p := ⟨fb, 0, none⟩) (fun e => NE.out fb e rfl) (.int .i64 (L9.length : Int))).far (p := ⟨fb, 1, none⟩) (fun e => NE.out fb e rfl) (.slice A9 L9.length c9))
    have F9 := Lib.hid ((F.out.set_ 0 (.int .i64 (L9.length : Int))).set_ 1 (.slice A9 L9.length c9))
    go_upto_region 4 with fail
    generalize World.setCell (World.setCell w8 _ _) _ _ = W9 at *
    clear kf lf ff D F R O
    have D := D9
    have R := R9
    have O := O9
    have F : Hid (Blk W9 fb 26 #[.int .i64 (L9.length : Int), .slice A9 L9.length c9]) := Lib.hid (by have := F9.out; simpa using this)
    clear D9 F9 R9 O9 hn
    go_wp2_with fail
    refine (spec_l01Next _ _ _ _ _ 40 D.out.S (by decide) (by decide)).mono ?_
    rintro e w9 ⟨k, rfl, hk, hS, hg, -⟩
    replace O := Lib.hid (D.out.passB O.out HB.out hg)
    replace R := Lib.hid (D.out.blk R.out (Nat.le_refl _) hg)
    replace F := Lib.hid (D.out.blk F.out (Nat.le_of_succ_le ZF.out) hg)
    replace D := Lib.hid (D.out.call hS hg)
    clear hS hg
    cases t0 : ((k : Int) == 0)
    · cases t1 : ((k : Int) == 1)
      · cases t2 : ((k : Int) == 2)
        · clear hk
          have kr := R.out.cell
          have fr := R.out.frozen
          have lr := R.out.lt
          have kf := F.out.cell
          have lf := F.out.lt
          go_wp2
          refine bodyPost_ret (v := .agg #[.int .i64 (L9.length : Int), .slice A9 L9.length c9]) (by simp [results, Tryz.results35, go_sem, kr, fr, lr]) rfl ⟨_, _, L9, rfl, by omega, by omega, ?_, ?_, ?_⟩
          · exact ((O.out.setBelow (p := ⟨w.heap.size, 0, none⟩) (Nat.lt_succ_self _) _).setBelow (p := ⟨w.heap.size, 1, none⟩) (Nat.lt_succ_self _) _).mono HB.out
          · exact ((D.out.set (p := ⟨w.heap.size, 0, none⟩) (Nat.le_refl _) _).set (p := ⟨w.heap.size, 1, none⟩) (Nat.le_refl _) _).S
          · exact ((D.out.set (p := ⟨w.heap.size, 0, none⟩) (Nat.le_refl _) _).set (p := ⟨w.heap.size, 1, none⟩) (Nat.le_refl _) _).gr
        · clear hk
          by_cases hpos : 0 < L9.length
          · skip
            obtain ⟨F2, hF2⟩ : ∃ F2, F2 = 2 ^ L9.length - 1 := ⟨_, rfl⟩
            have hp2 := two_pow_256 (show L9.length ≤ 8 by omega)
            have hF256 : F2 < 256 := by have := Nat.pow_pos (n := L9.length) (show 0 < 2 by decide); omega
            have HF2 := Lib.hid hF2
            clear hF2 hp2
            have kf := F.out.cell
            go_upto_region 11 with fail
            have hb := (Below.refl w9.heap.size w9).drew
            replace O := Lib.hid (O.out.below hb)
            replace R := Lib.hid (R.out.below hb R.out.lt)
            replace F := Lib.hid (F.out.below hb F.out.lt)
            replace D := Lib.hid (D.out.below hb)
            clear hb
            have hI : (fun X : World => X.cell? ⟨fb, 0, none⟩ = some (.int .i64 (L9.length : Int)) ∧ X.cell? ⟨fb, 1, none⟩ = some (.slice A9 L9.length c9)) (World.drew w9) := ⟨F.out.cell 0, F.out.cell 1⟩
            refine wp_region_sched (fun X => X.cell? ⟨fb, 0, none⟩ = some (.int .i64 (L9.length : Int)) ∧ X.cell? ⟨fb, 1, none⟩ = some (.slice A9 L9.length c9)) 13 [0, 1, 2, 3, 4, 6, 7, 8, 10, 12] [0, 1, 2, 3, 4, 6, 7, 8, 5, 9, 10, 11, 12] (by kernel_rfl) (by kernel_rfl) hI ?_
            generalize World.drew w9 = w9d at *
            clear kf
            repeat
              apply wpSched_q rfl rfl
              case h =>
                intro w' hI K hK
                have cc0 : w'.cell? ⟨fb, 0, none⟩ = some (.int .i64 (L9.length : Int)) := hI.1
                have cc1 : w'.cell? ⟨fb, 1, none⟩ = some (.slice A9 L9.length c9) := hI.2
                simp only [quietV, stillV]
                go_simp
                exact hK
              go_simp
            refine wpSched_r rfl rfl ?_ hI
            intro K hK _
            go_simp
            refine (spec_l01Next _ _ _ _ _ (L9.length : Int) D.out.S (by omega) (by omega)).mono ?_
            rintro e w10 ⟨k1, rfl, hk1, hS, hg, -⟩
            replace O := Lib.hid (D.out.passB O.out HB.out hg)
            replace R := Lib.hid (D.out.blk R.out (Nat.le_refl _) hg)
            replace F := Lib.hid (D.out.blk F.out (Nat.le_of_succ_le ZF.out) hg)
            replace D := Lib.hid (D.out.call hS hg)
            clear hS hg
            have hk1' : k1 < L9.length := by omega
            clear hk1
            clear hI
            have hI : (fun X : World => X.cell? ⟨fb, 0, none⟩ = some (.int .i64 (L9.length : Int)) ∧ X.cell? ⟨fb, 1, none⟩ = some (.slice A9 L9.length c9)) w10 := ⟨F.out.cell 0, F.out.cell 1⟩
            refine hK _ _ hI ?_
            clear hK K
            repeat
              apply wpSched_q rfl rfl
              case h =>
                intro w' hI K hK
                have cc0 : w'.cell? ⟨fb, 0, none⟩ = some (.int .i64 (L9.length : Int)) := hI.1
                have cc1 : w'.cell? ⟨fb, 1, none⟩ = some (.slice A9 L9.length c9) := hI.2
                simp only [quietV, stillV]
                go_simp
                exact hK
              go_simp
            refine wpSched_r rfl rfl ?_ hI
            intro K hK _
            go_simp
            refine (spec_l01Full' L9.length F2 HF2.out _ (by omega)).mono ?_
            rintro e w8 ⟨rfl, rfl⟩
            clear hI
            have hI : (fun X : World => X.cell? ⟨fb, 0, none⟩ = some (.int .i64 (L9.length : Int)) ∧ X.cell? ⟨fb, 1, none⟩ = some (.slice A9 L9.length c9)) w10 := ⟨F.out.cell 0, F.out.cell 1⟩
            refine hK _ _ hI ?_
            clear hK K
            repeat
              apply wpSched_q rfl rfl
              case h =>
                intro w' hI K hK
                have cc0 : w'.cell? ⟨fb, 0, none⟩ = some (.int .i64 (L9.length : Int)) := hI.1
                have cc1 : w'.cell? ⟨fb, 1, none⟩ = some (.slice A9 L9.length c9) := hI.2
                simp only [quietV, stillV]
                go_simp
                exact hK
              go_simp
            refine wpSched_r rfl rfl ?_ hI
            intro K hK _
            go_simp
            rw [show IntKind.i64.wrap ((F2 : Int) + 2) = (F2 : Int) + 2 from IntWalk.i64_in _ ⟨by omega, by omega⟩]
            refine (spec_l01Next _ _ _ _ _ ((F2 : Int) + 2) D.out.S (by omega) (by omega)).mono ?_
            rintro e w11 ⟨y, rfl, hy, hS, hg, -⟩
            replace O := Lib.hid (D.out.passB O.out HB.out hg)
            replace R := Lib.hid (D.out.blk R.out (Nat.le_refl _) hg)
            replace F := Lib.hid (D.out.blk F.out (Nat.le_of_succ_le ZF.out) hg)
            replace D := Lib.hid (D.out.call hS hg)
            clear hS hg
            have hyb : (y : Int) < 300 := by omega
            clear hy
            clear hI
            have hI : (fun X : World => X.cell? ⟨fb, 0, none⟩ = some (.int .i64 (L9.length : Int)) ∧ X.cell? ⟨fb, 1, none⟩ = some (.slice A9 L9.length c9)) w11 := ⟨F.out.cell 0, F.out.cell 1⟩
            refine hK _ _ hI ?_
            clear hK K
            obtain ⟨ga, cc, hv, gB, gl, -⟩ := O.out.form hpos
            injection hv with hA hN hC
            subst hA
            subst hC
            clear hN
            repeat
              apply wpSched_q rfl rfl
              case h =>
                intro w' hI K hK
                simp only [quietV, stillV]
                go_simp
                exact hK
              go_simp
            refine wpSched_nil ?_
            try simp only [List.drop_succ_cons, List.drop_zero, List.drop_nil]
            try rw [show IntKind.i64.wrap ((y : Int) - 1) = (y : Int) - 1 from IntWalk.i64_in _ ⟨by omega, by omega⟩]
            obtain ⟨c2, f2, -, -⟩ := O.out.at1 rfl hk1' rfl
            have O9 := Lib.hid (O.out.set1 (j := k1) (x := ((y : Int) - 1)) (u := .int .i64 ((y : Int) - 1)) rfl rfl hk1')
            have LX9 : Hid ((L9.set k1 ((y : Int) - 1)).length ≤ 9) := Lib.hid (by rw [List.length_set]; omega)
            have D9 := Lib.hid (D.out.set (p := ⟨ga, k1, none⟩) (show w.heap.size ≤ ga by omega) (.int .i64 ((y : Int) - 1)))
            have gne : ga ≠ fb := NE.out ga rfl
            have F9 := Lib.hid (F.out.far (p := ⟨ga, k1, none⟩) (fun e => by have eq : fb = ga := e; omega) (.int .i64 ((y : Int) - 1)))
            have R9 := Lib.hid (R.out.far (p := ⟨ga, k1, none⟩) (fun e => by have eq : w.heap.size = ga := e; omega) (.int .i64 ((y : Int) - 1)))
            clear hI O D F R
            have O := O9
            have D := D9
            have F := F9
            have R := R9
            clear O9 D9 F9 R9
            have kf := F.out.cell
            have lf := F.out.lt
            go_upto_region 12 with fail
            generalize World.setCell w11 _ _ = W9 at *
            clear kf lf c2 f2
            have kr := R.out.cell
            have fr := R.out.frozen
            have lr := R.out.lt
            have kf := F.out.cell
            have lf := F.out.lt
            go_wp2
            refine bodyPost_ret (v := .agg #[.int .i64 (L9.length : Int), .slice (some ⟨ga, 0, none⟩) L9.length c9]) (by simp [results, Tryz.results35, go_sem, kr, fr, lr]) rfl ⟨_, _, (L9.set k1 ((y : Int) - 1)), rfl, by omega, LX9.out, ?_, ?_, ?_⟩
            · exact ((O.out.setBelow (p := ⟨w.heap.size, 0, none⟩) (Nat.lt_succ_self _) _).setBelow (p := ⟨w.heap.size, 1, none⟩) (Nat.lt_succ_self _) _).mono HB.out
            · exact ((D.out.set (p := ⟨w.heap.size, 0, none⟩) (Nat.le_refl _) _).set (p := ⟨w.heap.size, 1, none⟩) (Nat.le_refl _) _).S
            · exact ((D.out.set (p := ⟨w.heap.size, 0, none⟩) (Nat.le_refl _) _).set (p := ⟨w.heap.size, 1, none⟩) (Nat.le_refl _) _).gr
          · have hz : L9.length = 0 := by omega
            have kf := F.out.cell
            go_upto_region 12 with fail
            clear kf hz
            have kr := R.out.cell
            have fr := R.out.frozen
            have lr := R.out.lt
            have kf := F.out.cell
            have lf := F.out.lt
            go_wp2
            refine bodyPost_ret (v := .agg #[.int .i64 (L9.length : Int), .slice A9 L9.length c9]) (by simp [results, Tryz.results35, go_sem, kr, fr, lr]) rfl ⟨_, _, L9, rfl, by omega, by omega, ?_, ?_, ?_⟩
            · exact ((O.out.setBelow (p := ⟨w.heap.size, 0, none⟩) (Nat.lt_succ_self _) _).setBelow (p := ⟨w.heap.size, 1, none⟩) (Nat.lt_succ_self _) _).mono HB.out
            · exact ((D.out.set (p := ⟨w.heap.size, 0, none⟩) (Nat.le_refl _) _).set (p := ⟨w.heap.size, 1, none⟩) (Nat.le_refl _) _).S
            · exact ((D.out.set (p := ⟨w.heap.size, 0, none⟩) (Nat.le_refl _) _).set (p := ⟨w.heap.size, 1, none⟩) (Nat.le_refl _) _).gr
      · clear hk
        have kf := F.out.cell
        have lf := F.out.lt
        go_wp2_with fail
        refine (spec_l01Own _ L9 _ O.out.sl (by omega)).mono ?_
        rintro e w12 ⟨u2, rfl, O2, hb⟩
        have N2 : Hid (∀ k, u2.ownBlock = some k → fb < k) := Lib.hid (fun k hk => by have := (O2.block k hk).1; have := F.out.lt; omega)
        replace O2 := Lib.hid (O2.mono (R.out.lt))
        replace O := Lib.hid (O.out.below hb)
        replace R := Lib.hid (R.out.below hb R.out.lt)
        replace F := Lib.hid (F.out.below hb F.out.lt)
        replace D := Lib.hid (D.out.below hb)
        clear hb
        clear kf lf
        obtain ⟨A2, c2, rfl⟩ := O2.out.opn
        have bsz : w.heap.size + 1 ≤ _ := R.out.lt
        go_wp2_with (at_builtin; refine stopHere ?_)
        refine goHere ?_
        refine ap_one (K := cI) _ ty_int64 rfl _ _ rfl (B := w.heap.size + 1) (v := .slice A2 L9.length c2) (xs := L9) rfl O2.out (0 : Int) rfl rfl (by omega) bsz ?_
        intro v1 w9 ho1 hg1 hb1 hat1
        have ne1 : v1.ownBlock ≠ some fb := by
          intro e
          have hlt := F.out.lt
          rcases hat1 with h1 | h1
          · have := N2.out fb (h1 ▸ e); omega
          · rw [h1] at e; injection e with e; omega
        have D9 := Lib.hid ((D.out.grown (grown_alloc _ hg1) (fun q e => by have := (O2.out.block q e).1; omega)).set (p := ⟨fb, 1, none⟩) (Nat.le_of_succ_le ZF.out) v1)
        have F8 := F.out.grown (grown_alloc _ hg1) (fun e => by have := N2.out fb e.symm; omega)
        have R9 := Lib.hid ((R.out.grown (grown_alloc _ hg1) (fun e => by have := (O2.out.block _ e.symm).1; omega)).far (p := ⟨fb, 1, none⟩) (fun e => by have eq : w.heap.size = fb := e; have := ZF.out; omega) v1)
        have O9 := Lib.hid (ho1.far (p := ⟨fb, 1, none⟩) ne1 v1)
        have F9 := Lib.hid (F8.set_ 1 v1)
        obtain ⟨AX9, cX9, hv9⟩ := ho1.opn
        rw [List.length_append, List.length_singleton] at hv9
        subst hv9
        clear ho1 hg1 hb1 hat1 D F R O ne1
        have D := D9
        have F := F9
        have R := R9
        have O := O9
        clear D9 F9 R9 O9
        have LX9 : Hid ((L9 ++ [0]).length ≤ 9) := Lib.hid (by rw [List.length_append, List.length_singleton]; omega)
        have kf := F8.cell
        have lf := F8.lt
        have ff := F8.frozen
        go_upto_region 12 with fail
        generalize World.setCell w9 _ _ = W9 at *
        clear kf lf ff F8
        have kr := R.out.cell
        have fr := R.out.frozen
        have lr := R.out.lt
        have kf := F.out.cell
        have lf := F.out.lt
        go_wp2
        refine bodyPost_ret (v := .agg #[.int .i64 (L9.length : Int), .slice AX9 (L9.length + 1) cX9]) (by simp [results, Tryz.results35, go_sem, kr, fr, lr]) rfl ⟨_, _, (L9 ++ [0]), rfl, by omega, LX9.out, ?_, ?_, ?_⟩
        · exact ((O.out.setBelow (p := ⟨w.heap.size, 0, none⟩) (Nat.lt_succ_self _) _).setBelow (p := ⟨w.heap.size, 1, none⟩) (Nat.lt_succ_self _) _).mono HB.out
        · exact ((D.out.set (p := ⟨w.heap.size, 0, none⟩) (Nat.le_refl _) _).set (p := ⟨w.heap.size, 1, none⟩) (Nat.le_refl _) _).S
        · exact ((D.out.set (p := ⟨w.heap.size, 0, none⟩) (Nat.le_refl _) _).set (p := ⟨w.heap.size, 1, none⟩) (Nat.le_refl _) _).gr
    · clear hk
      have kf := F.out.cell
      have lf := F.out.lt
      go_wp2_with fail
      clear kf lf
      have hb := below_alloc' w9 (.cells #[.int .i64 (-1), .int .i64 9, .int .i64 ((L9.length : Int) + 1)] 2)
      have OL : Hid (Ow cI 2 (w.heap.size + 1) (World.alloc w9 (.cells #[.int .i64 (-1), .int .i64 9, .int .i64 ((L9.length : Int) + 1)] 2)) (.slice (some ⟨w9.heap.size, 0, none⟩) 3 3) [(-1), 9, ((L9.length : Int) + 1)]) := Lib.hid (Ow.lit [(-1), 9, ((L9.length : Int) + 1)] rfl rfl R.out.lt)
      replace O := Lib.hid (O.out.below hb)
      replace R := Lib.hid (R.out.below hb R.out.lt)
      replace F := Lib.hid (F.out.below hb F.out.lt)
      replace D := Lib.hid (D.out.below hb)
      clear hb
      generalize World.alloc w9 _ = w9l at *
      refine (spec_l01Pick _ _ _ _ _ _ [(-1), 9, ((L9.length : Int) + 1)] D.out.S OL.out.sl (by have := OL.out; have hb2 := OL.out.block; exact .inr (fun e => by have := hb2 _ e; have := D.out.lt; omega)) (by simp) (by simp)).mono ?_
      rintro e w13 ⟨y, rfl, hy, hS, hg, -⟩
      clear OL
      replace O := Lib.hid (D.out.passB O.out HB.out hg)
      replace R := Lib.hid (D.out.blk R.out (Nat.le_refl _) hg)
      replace F := Lib.hid (D.out.blk F.out (Nat.le_of_succ_le ZF.out) hg)
      replace D := Lib.hid (D.out.call hS hg)
      clear hS hg
      have hy9 : y ≤ 1000 := by
        simp only [List.mem_cons, List.not_mem_nil, or_false] at hy
        omega
      clear hy
      have kf := F.out.cell
      have lf := F.out.lt
      have ff := F.out.frozen
      have D9 := Lib.hid (D.out.set (p := ⟨fb, 0, none⟩) (Nat.le_of_succ_le ZF.out) (.int .i64 y))
      have R9 := Lib.hid (R.out.far (p := ⟨fb, 0, none⟩) (fun e => by have eq : w.heap.size = fb := e; have := ZF.out; omega) (.int .i64 y))
      have O9 := Lib.hid (O.out.far (p := ⟨fb, 0, none⟩) (fun e => NE.out fb e rfl) (.int .i64 y))
      have F9 := Lib.hid (F.out.set_ 0 (.int .i64 y))
      go_upto_region 12 with fail
      generalize World.setCell w13 _ _ = W9 at *
      clear kf lf ff D F R O
      have D := D9
      have F := F9
      have R := R9
      have O := O9
      clear D9 F9 R9 O9
      have kr := R.out.cell
      have fr := R.out.frozen
      have lr := R.out.lt
      have kf := F.out.cell
      have lf := F.out.lt
      go_wp2
      refine bodyPost_ret (v := .agg #[.int .i64 y, .slice A9 L9.length c9]) (by simp [results, Tryz.results35, go_sem, kr, fr, lr]) rfl ⟨_, _, L9, rfl, by omega, by omega, ?_, ?_, ?_⟩
      · exact ((O.out.setBelow (p := ⟨w.heap.size, 0, none⟩) (Nat.lt_succ_self _) _).setBelow (p := ⟨w.heap.size, 1, none⟩) (Nat.lt_succ_self _) _).mono HB.out
      · exact ((D.out.set (p := ⟨w.heap.size, 0, none⟩) (Nat.le_refl _) _).set (p := ⟨w.heap.size, 1, none⟩) (Nat.le_refl _) _).S
      · exact ((D.out.set (p := ⟨w.heap.size, 0, none⟩) (Nat.le_refl _) _).set (p := ⟨w.heap.size, 1, none⟩) (Nat.le_refl _) _).gr
/- Over any program: a region whose orders are left open, walked in a tree of orders (the first part of AF, alone). -/
/- Over any program: a region whose orders are left open, walked in a tree of orders: as Sch, but two operations that are ready together and not quiet are taken in both orders. -/
inductive Tr where
  | fin : Tr
  | q : Nat → Tr → Tr
  | r : Nat → Tr → Tr
  | rr : Nat → Nat → Tr → Tr → Tr
def Tr.dep : Tr → Nat
  | .fin => 0
  | .q _ t => t.dep + 1
  | .r _ t => t.dep + 1
  | .rr _ _ s _ => s.dep + 1
section
variable {P : Program} {ops : Array Oper} {md : Region.Mode} {I : World → Prop}
def treeB (md : Region.Mode) (ops : Array Oper) (n : Nat) : Tr → Array Bool → Bool
  | .fin, listed => Region.seqB md ops (ops.size - n) n listed
  | .q i t, listed => decide (i < n) && ((Region.ready md ops listed).contains i && Region.free md ops listed i) && treeB md ops n t (listed.setIfInBounds i true)
  | .r i t, listed => decide (i < n) && decide (Region.ready md ops listed = [i]) && treeB md ops n t (listed.setIfInBounds i true)
  | .rr i j s t, listed => decide (i < n) && decide (j < n) && decide (Region.ready md ops listed = [i, j]) && decide (s.dep = t.dep) && treeB md ops n s (listed.setIfInBounds i true) && treeB md ops n t (listed.setIfInBounds j true)
def schedTB (md : Region.Mode) (ops : Array Oper) (n : Nat) (t : Tr) : Bool :=
  Region.noSelect ops && tailB md ops n && decide (t.dep = n) && treeB md ops n t (Array.replicate ops.size false)
/-- an operation run, I kept, then K -/
def opW (P : Program) (ops : Array Oper) (I : World → Prop) (i : Nat) (K : Act → World → Prop) (a : Act) (w : World) : Prop :=
  match ops[i]? with
  | none => False
  | some o => if Region.wanted o (yielded ops a.tmps) then o.wp P a w (fun a' w' => I w' ∧ K a' w') Qf else K (a.put o.dst undef) w
theorem opW_opI {i : Nat} {K K' : Act → World → Prop} {a : Act} {w : World} (hI : I w) (h : opW P ops I i K a w) (hk : ∀ a' w', I w' → K a' w' → K' a' w') : opI P ops i K' a w := by
  unfold opW at h
  unfold opI
  cases ho : ops[i]? with
  | none => rw [ho] at h; exact h.elim
  | some o =>
    simp only [ho] at h
    split at h
    · rename_i hw
      simp only [hw, if_true]
      exact Oper.wp_mono (fun a' w' h' => hk a' w' h'.1 h'.2) h
    · rename_i hw
      simp only [hw]
      exact hk _ _ hI h
theorem opW_intro {i : Nat} {o : Oper} {K' : Act → World → Prop} {a : Act} {w : World} (hi : ops[i]? = some o)
    (h : ∀ K : Act → World → Prop, (∀ a' w', I w' → K' a' w' → K a' w') → I w → if Region.wanted o (yielded ops a.tmps) then o.wp P a w K Qf else K (a.put o.dst undef) w) (hI : I w) : opW P ops I i K' a w := by
  unfold opW
  simp only [hi]
  have h := h (fun a' w' => I w' ∧ K' a' w') (fun _ _ h1 h2 => ⟨h1, h2⟩) hI
  split at h
  · rename_i hw; rw [if_pos hw]; exact h
  · rename_i hw; rw [if_neg hw]; exact h.2
/-- the walk along the tree -/
def wpT (P : Program) (ops : Array Oper) (I : World → Prop) (L : Act → World → Prop) : Tr → Act → World → Prop
  | .fin, a, w => L a w
  | .q i t, a, w =>
    match ops[i]? with
    | none => False
    | some o => ∃ v, YI P ops I o v a ∧ wpT P ops I L t (a.put o.dst v) w
  | .r i t, a, w => opW P ops I i (wpT P ops I L t) a w
  | .rr i j s t, a, w => opW P ops I i (wpT P ops I L s) a w ∧ opW P ops I j (wpT P ops I L t) a w
theorem wpT_fin {L : Act → World → Prop} {a : Act} {w : World} (h : L a w) : wpT P ops I L .fin a w := h
theorem wpT_q {L : Act → World → Prop} {i : Nat} {t : Tr} {o : Oper} {v : Value} {a : Act} {w : World} (hi : ops[i]? = some o)
    (h : ∀ w', I w' → ∀ K : Value → Prop, K v → quietV P ops o a w' K) (hn : wpT P ops I L t (a.put o.dst v) w) : wpT P ops I L (.q i t) a w := by
  unfold wpT
  simp only [hi]
  exact ⟨v, YI.of_quiet h, hn⟩
theorem wpT_r {L : Act → World → Prop} {i : Nat} {t : Tr} {o : Oper} {a : Act} {w : World} (hi : ops[i]? = some o)
    (h : ∀ K : Act → World → Prop, (∀ a' w', I w' → wpT P ops I L t a' w' → K a' w') → I w → if Region.wanted o (yielded ops a.tmps) then o.wp P a w K Qf else K (a.put o.dst undef) w) (hI : I w) : wpT P ops I L (.r i t) a w := by
  unfold wpT
  exact opW_intro hi h hI
theorem wpT_rr {L : Act → World → Prop} {i j : Nat} {s t : Tr} {o o' : Oper} {a : Act} {w : World} (hi : ops[i]? = some o) (hj : ops[j]? = some o')
    (h : ∀ K : Act → World → Prop, (∀ a' w', I w' → wpT P ops I L s a' w' → K a' w') → I w → if Region.wanted o (yielded ops a.tmps) then o.wp P a w K Qf else K (a.put o.dst undef) w)
    (h' : ∀ K : Act → World → Prop, (∀ a' w', I w' → wpT P ops I L t a' w' → K a' w') → I w → if Region.wanted o' (yielded ops a.tmps) then o'.wp P a w K Qf else K (a.put o'.dst undef) w) (hI : I w) : wpT P ops I L (.rr i j s t) a w := by
  unfold wpT
  exact ⟨opW_intro hi h hI, opW_intro hj h' hI⟩
theorem wpAnyI_tree {n : Nat} {Lq : Act → World → Prop} (hsel : Region.noSelect ops = true) (hb : tailB md ops n = true) :
    ∀ (t : Tr) (listed : Array Bool) (a : Act) (w : World), HeadInv md ops n listed → treeB md ops n t listed = true → I w → wpT P ops I Lq t a w →
      wpAnyI P md ops I n (fun listed' a' w' => Region.seqB md ops (ops.size - n) n listed' = true ∧ Lq a' w') t.dep listed a w
  | .fin, listed, a, w, _, hB, hI, h => ⟨hI, hB, h⟩
  | .q i t, listed, a, w, inv, hB, hI, h => by
    simp only [treeB, Bool.and_eq_true, decide_eq_true_eq] at hB
    obtain ⟨⟨hin, hr, hf⟩, hB2⟩ := hB
    unfold wpT at h
    cases ho : ops[i]? with
    | none => rw [ho] at h; exact h.elim
    | some o =>
      simp only [ho] at h
      obtain ⟨v, hy, hn⟩ := h
      have hr' : i ∈ Region.ready md ops listed := by simpa using hr
      exact wpAnyI_first ho (Region.noSelect_spec hsel) hb hin (fun _ _ _ hL => seqB_ready hL.1) t.dep listed a w inv (Region.free_spec ho hf) hr' hy hI
        (wpAnyI_tree hsel hb t _ _ _ (inv.set hr' hin) hB2 hI hn)
  | .r i t, listed, a, w, inv, hB, hI, h => by
    simp only [treeB, Bool.and_eq_true, decide_eq_true_eq] at hB
    obtain ⟨⟨hin, hB1⟩, hB2⟩ := hB
    unfold wpT at h
    refine ⟨hI, (by rw [hB1]; simp), fun j hj => ?_⟩
    have hr' : i ∈ Region.ready md ops listed := by rw [hB1]; exact List.mem_singleton.2 rfl
    rw [hB1] at hj
    have hji : j = i := by simpa using hj
    subst hji
    exact ⟨hin, opW_opI hI h fun a' w' hI' h' => wpAnyI_tree hsel hb t _ a' w' (inv.set hr' hin) hB2 hI' h'⟩
  | .rr i j s t, listed, a, w, inv, hB, hI, h => by
    simp only [treeB, Bool.and_eq_true, decide_eq_true_eq] at hB
    obtain ⟨⟨⟨⟨⟨hin, hjn⟩, hB1⟩, hd⟩, hB2⟩, hB3⟩ := hB
    unfold wpT at h
    refine ⟨hI, (by rw [hB1]; simp), fun k hk => ?_⟩
    have hri : i ∈ Region.ready md ops listed := by rw [hB1]; simp
    have hrj : j ∈ Region.ready md ops listed := by rw [hB1]; simp
    rw [hB1] at hk
    rcases List.mem_cons.1 hk with rfl | hk
    · exact ⟨hin, opW_opI hI h.1 fun a' w' hI' h' => wpAnyI_tree hsel hb s _ a' w' (inv.set hri hin) hB2 hI' h'⟩
    · have hkj : k = j := by simpa using hk
      subst hkj
      refine ⟨hjn, opW_opI hI h.2 fun a' w' hI' h' => ?_⟩
      have := wpAnyI_tree hsel hb t _ a' w' (inv.set hrj hjn) hB3 hI' h'
      rw [← hd] at this
      exact this
/-- a region that draws, walked along a tree of orders, then the forced operations from n on -/
theorem wp_region_tree {id : Nat} {Q : Exit → Act → World → Prop} {a : Act} {w : World} {l : List Oper} (I : World → Prop) (n : Nat) (t : Tr) (hm : P.follows .mixedOrders = true) (hB : schedTB .any l.toArray n t = true)
    (hI : I w.drew) (h : wpT P l.toArray I (fun a' w' => wpList P l.toArray Q (l.drop n) a' w') t a w.drew) : (Code.region id l.toArray true).wp P Q a w := by
  simp only [schedTB, Bool.and_eq_true, decide_eq_true_eq] at hB
  obtain ⟨⟨⟨hsel, hb⟩, hlen⟩, hs⟩ := hB
  have hn : n ≤ l.length := by
    unfold tailB at hb
    simp only [Bool.or_eq_true, Bool.and_eq_true, decide_eq_true_eq, List.size_toArray] at hb
    rcases hb with hb | ⟨⟨hb, _⟩, _⟩ <;> omega
  have inv0 : HeadInv .any l.toArray n (Array.replicate l.toArray.size false) :=
    ⟨by simp, fun j oj _ hl => (by rw [getD_replicate_false] at hl; cases hl), fun t _ ht => getD_in (by simpa using ht) (getD_replicate_false _ _)⟩
  have H := wpAnyI_tree (md := .any) (P := P) (Lq := fun a' w' => wpList P l.toArray Q (l.drop n) a' w') hsel hb t _ a w.drew inv0 hs hI h
  refine wp_region_any hm ?_
  have hdl : (l.drop n).length = l.toArray.size - n := by simp
  have := wpAny_of_I (Q := Q) (g := l.toArray.size - n) (fun listed a' w' hL => by
    have := wpAny_of_seq (md := .any) (Q' := Q) (l.drop n) n listed a' w' (fun j => by simp [List.getElem?_drop]) (by rw [hdl]; exact hL.1) hL.2
    rwa [hdl] at this) _ _ _ _ H
  rw [hlen, show n + (l.toArray.size - n) = l.toArray.size by simp; omega] at this
  exact this
end
/- The reference's drawing functions of valuations, by the shape of what they draw (written by program, gendr10.py). -/
theorem img_none (ns : List Nat) : img ns 0 = 0 := by
  have h : ∀ k, imgTo ns 0 k = 0 := by
    intro k
    induction k with
    | zero => rfl
    | succ k ih => rw [imgTo, ih, Nat.zero_testBit, if_neg Bool.false_ne_true, Nat.or_zero]
  exact h _
theorem raiseP {α : Type} {K : Cod α} {e : TypeId} {B B' : Nat} {w : World} {v : Value} {xs : List α} (h : Ow K e B w v xs) (hk : ∀ k, v.ownBlock = some k → B' ≤ k) : Ow K e B' w v xs := by
  obtain ⟨hv, h1, h2⟩ := h
  refine ⟨hv, h1, ?_⟩
  rcases h2 with h2 | ⟨g, cap, cur, hg, hB, hr⟩
  · exact .inl h2
  · exact .inr ⟨g, cap, cur, hg, hk g (by rw [hg]; rfl), hr⟩
set_option maxRecDepth 100000 in
set_option maxHeartbeats 1000000 in
theorem spec_l16Upsets (v : Value) (ns : List Nat) (w : World) (h : Sl cI w v (li ns)) (hr : RelN ns) :
    Calls Tryz.prog 69 #[.agg #[.int .i64 (ns.length : Int), v]] w fun e w' => ∃ z L, e = .returned z ∧ 1 ≤ L.length ∧ L.length ≤ 256 ∧ Ow cI 2 w.heap.size w' z L ∧ Below w.heap.size w w' := by
  obtain ⟨A0, c0, rfl⟩ := h.opn
  have h8 := hr.1
  have HL := Lib.hid (li_length ns)
  rw [HL.out] at h ⊢
  have HX := Lib.hid h
  have A := Lib.hid (Below.refl w.heap.size w)
  obtain ⟨F, hF⟩ : ∃ F, F = 2 ^ ns.length - 1 := ⟨_, rfl⟩
  have hp2 := two_pow_256 h8
  have hp1 : 0 < 2 ^ ns.length := Nat.pow_pos (by decide)
  have hF256 : F < 256 := by omega
  have HFu := Lib.hid (fun W => spec_l01Full' ns.length F hF W (by omega))
  have HI := Lib.hid (fun (k : Nat) W (hk : k < 256) (hW : Sl cI W (.slice A0 ns.length c0) (li ns)) => spec_l01Image _ ns k W hW hr hk)
  have H0 := Lib.hid (img_none ns)
  have HIl := Lib.hid (fun k => Nat.lt_of_lt_of_le (show img ns k < 2 ^ ns.length from imgTo_lt hr.2 k ns.length) hp2)
  clear h hr hF hp2 hp1
  go_enter Tryz.func69, Tryz.ntmps69
  go_upto_region 1 with fail
  have hb := below_alloc' w (.cells #[.int .i64 ns.length, .slice A0 ns.length c0] 26)
  have T1 := Lib.hid (Bk.new w #[.int .i64 ns.length, .slice A0 ns.length c0] 26)
  replace HX := Lib.hid (HX.out.below hb)
  replace A := Lib.hid (bthen A.out hb)
  clear hb
  generalize World.alloc w _ = w1 at *
  go_wp2
  go_loopw [3, 4] (fun v i wr => ∃ (j : Nat) (L : List Int), j ≤ F + 1 ∧ i = .int .i64 j ∧ L.length ≤ j ∧ (1 ≤ j → 1 ≤ L.length) ∧ Ow cI 2 w1.heap.size wr v L ∧ Below w1.heap.size w1 wr) (fun _ i _ => F + 1 - (intOf i).toNat)
  case atStart => exact ⟨0, [], Nat.zero_le _, rfl, Nat.le_refl _, fun h => absurd h (by decide), Ow.lit (K := cI) [] rfl rfl (Nat.le_refl _), below_alloc' _ _⟩
  case round =>
    obtain ⟨j, L, hj, rfl, hl, hl1, ho, hb⟩ := hrel
    obtain ⟨w2, hw2⟩ : ∃ W, W = wr := ⟨_, rfl⟩
    subst hw2
    obtain ⟨A2, c2, rfl⟩ := ho.opn
    have a0 : w2.cell? ⟨w.heap.size, 0, none⟩ = some (.int .i64 (ns.length : Int)) := (T1.out.below hb).2 0
    have a1 : w2.cell? ⟨w.heap.size, 1, none⟩ = some (.slice A0 ns.length c0) := (T1.out.below hb).2 1
    have OA := Lib.hid ho
    have HB := Lib.hid hb
    have HL1 := Lib.hid hl1
    have hz := hb.size
    clear ho hb hl1
    go_wp2_with fail
    refine (HFu.out _).mono ?_
    rintro e _ ⟨rfl, rfl⟩
    by_cases hlt : j ≤ F
    · have i4 : (j : Int) ≤ (F : Int) := by omega
      have hIm := HI.out j w2 (by omega) (HX.out.below HB.out)
      have hIl := HIl.out j
      have HIm := Lib.hid hIm
      have HZ : Hid (j = 0 → img ns j = 0) := Lib.hid (fun h => by rw [h]; exact H0.out)
      clear hIm
      generalize img ns j = r at *
      go_wp2_with fail
      refine HIm.out.mono ?_
      rintro e _ ⟨rfl, rfl⟩
      by_cases hd : r = j
      · have hd1 : ((r : Int) == (j : Int)) = true := by rw [hd]; simp
        clear a0 a1
        go_wp2_with (at_builtin; refine stopHere ?_)
        refine goHere ?_
        refine ap_one (K := cI) _ ty_int64 rfl _ _ rfl (B := w1.heap.size) (v := .slice A2 L.length c2) (xs := L) rfl OA.out (j : Int) rfl rfl (by omega) hz ?_
        intro v1 w7 ho1 hg1 hb1 hat1
        have O1 := Lib.hid ho1
        have B1 := Lib.hid (HB.out.trans hb1)
        have HN : Hid ((L ++ [(j : Int)]).length ≤ j + 1 ∧ 1 ≤ (L ++ [(j : Int)]).length) := Lib.hid (by rw [List.length_append, List.length_singleton]; omega)
        clear ho1 hg1 hb1 hat1
        go_wp2
        exact ⟨⟨j + 1, L ++ [(j : Int)], by omega, by go_num, HN.out.1, fun _ => HN.out.2, O1.out, B1.out⟩, by simp [intOf]; omega⟩
      · have hd1 : ((r : Int) == (j : Int)) = false := beq_eq_false_iff_ne.2 (by omega)
        have hpos : 1 ≤ j := by rcases Nat.eq_zero_or_pos j with h | h; · exact absurd (by rw [HZ.out h, h]) hd
                                · exact h
        clear a0 a1
        go_wp2
        exact ⟨⟨j + 1, L, by omega, by go_num, by omega, fun _ => HL1.out hpos, OA.out, HB.out⟩, by simp [intOf]; omega⟩
    · obtain rfl : j = F + 1 := by omega
      have i4 : ¬ ((F + 1 : Nat) : Int) ≤ (F : Int) := by omega
      have hl1 := HL1.out (by omega)
      clear a0 a1
      go_wp2
      go_ret
      exact ⟨_, L, rfl, hl1, by omega, OA.out.mono A.out.size, A.out.trans (HB.out.mono A.out.size)⟩
set_option maxRecDepth 100000 in
set_option maxHeartbeats 1000000 in
theorem spec_l17Some (w0 : World) (v : Value) (xs : List (Fin 256)) (w : World) (g : Nat) (u : Value) (ns : List Nat) (S : Src 69 w0 v xs w g) (h : Sl cI w u (li ns)) (hr : RelN ns) :
    Calls Tryz.prog 37 #[.pointer (some ⟨g, 0, none⟩), .agg #[.int .i64 (ns.length : Int), u]] w fun e w' => ∃ z L, e = .returned z ∧ L.length = 6 ∧ Ow cI 2 w.heap.size w' z L ∧ Src 69 w0 v xs w' g ∧ w.grownBy w' (some g) := by
  obtain ⟨A0, c0, rfl⟩ := h.opn
  have HLn := Lib.hid (li_length ns)
  rw [HLn.out] at h ⊢
  have HX := Lib.hid h
  have HUp := Lib.hid (fun W (hW : Sl cI W (.slice A0 ns.length c0) (li ns)) => spec_l16Upsets _ ns W hW hr)
  clear h hr
  have HB : Hid (w.heap.size ≤ w.heap.size) := Lib.hid (Nat.le_refl _)
  have D := Lib.hid (Dg.start S)
  clear S
  go_enter Tryz.func37, Tryz.ntmps37
  go_upto_region 1 with fail
  have hb := below_alloc' w (.cells #[.int .i64 (ns.length : Int), .slice A0 ns.length c0] 26)
  have T1 := Lib.hid (Bk.new w #[.int .i64 (ns.length : Int), .slice A0 ns.length c0] 26)
  replace HX := Lib.hid (HX.out.below hb)
  replace D := Lib.hid (D.out.below hb)
  clear hb
  generalize World.alloc w _ = w1 at *
  have t1s := T1.out.1
  have t1c := T1.out.2
  go_wp2_with fail
  clear t1s t1c T1
  refine (HUp.out _ HX.out).mono ?_
  rintro e w2 ⟨z, L, rfl, hL1, hL2, OU, hb⟩
  replace OU := Lib.hid (OU.mono (D.out.size))
  replace D := Lib.hid (D.out.below hb)
  clear hb
  clear HX HUp
  obtain ⟨AU, cU, rfl⟩ := OU.out.opn
  have NU := Lib.hid (fun k hk => (OU.out.block k hk).2)
  have HB2 := Lib.hid D.out.size
  have HLB := Lib.hid (show L.length ≤ 256 from hL2)
  have i256 : (1 : Int) ≤ (L.length : Int) := by omega
  go_wp2
  go_loopw [6, 7] (fun a i wr => ∃ (j : Nat) (M : List Int), j ≤ 6 ∧ i = .int .i64 (j : Int) ∧ M.length = j ∧ Ow cI 2 w2.heap.size wr a M ∧ Ow cI 2 w.heap.size wr (.slice AU L.length cU) L ∧ Dg w0 v xs g w wr ∧ w2.heap.size ≤ wr.heap.size) (fun _ i _ => 6 - (intOf i).toNat)
  case atStart => exact ⟨0, [], Nat.zero_le _, rfl, rfl, Ow.lit (K := cI) [] rfl rfl (Nat.le_refl _), OU.out.alloc _, D.out.alloc _, by rw [size_alloc']; omega⟩
  case round =>
    clear OU D
    obtain ⟨j, M, hj, rfl, hM, OA, OU, D, hz3⟩ := hrel
    obtain ⟨w3, hw3⟩ : ∃ W, W = wr := ⟨_, rfl⟩
    subst hw3
    obtain ⟨Aa, ca, rfl⟩ := OA.opn
    rw [hM] at OA ⊢
    replace OA := Lib.hid OA
    replace OU := Lib.hid OU
    replace D := Lib.hid D
    have HM := Lib.hid hM
    clear hM
    by_cases hlt : j < 6
    · have hlt6 : (j : Int) < 6 := by omega
      go_wp2_with fail
      refine (spec_l01Next _ _ _ _ _ (L.length : Int) D.out.S (by omega) (by have := HLB.out; omega)).mono ?_
      rintro e w4 ⟨k, rfl, hk, hS, hg, hz4⟩
      have HW3 := Lib.hid (show w2.heap.size ≤ w4.heap.size by omega)
      clear hz4 hz3
      replace OA := Lib.hid (D.out.passB OA.out HB2.out hg)
      replace OU := Lib.hid (D.out.passB OU.out HB.out hg)
      replace D := Lib.hid (D.out.call hS hg)
      clear hS hg
      have hkl : k < L.length := by omega
      obtain ⟨b, o, rfl, hbl, hcx⟩ := OU.out.sl.atI (k := k) hkl
      generalize L[k] = x at *
      go_wp2_with (at_builtin; refine stopHere ?_)
      refine goHere ?_
      refine ap_one (K := cI) _ ty_int64 rfl _ _ rfl (B := w.heap.size) (v := .slice Aa j ca) (xs := M) rfl (OA.out.mono HB2.out) (x : Int) rfl rfl (by have := HM.out; omega) D.out.size ?_
      intro v1 w9 ho1 hg1 hb1 hat1
      have D9 := Lib.hid (D.out.grown (grown_alloc _ hg1) (fun q e => by have := OA.out.block q e; have := HB2.out; omega))
      have HM9 : Hid ((M ++ [x]).length = j + 1) := Lib.hid (by rw [List.length_append, HM.out]; rfl)
      have U9 := Lib.hid ((OU.out.alloc _).kept hg1 (by
        by_cases hu : (Value.slice (some ⟨b, o, none⟩) L.length cU).ownBlock = none
        · exact .inl hu
        · refine .inr (fun e => ?_)
          obtain ⟨k9, hk9⟩ := Option.ne_none_iff_exists'.1 hu
          have h1 := NU.out k9 hk9
          have h2 := (OA.out.block k9 (e ▸ hk9)).1
          omega))
      have O9 := Lib.hid (raiseP (B' := w2.heap.size) ho1 (fun k9 hk9 => by
        rcases hat1 with h1 | h1
        · exact (OA.out.block k9 (h1 ▸ hk9)).1
        · rw [h1] at hk9; injection hk9 with hk9; have := HW3.out; omega))
      have HW9 := Lib.hid (Nat.le_trans HW3.out hb1.size)
      clear ho1 hg1 hb1 hat1
      go_wp2
      exact ⟨⟨j + 1, M ++ [x], by omega, by go_num, HM9.out, O9.out, U9.out, D9.out, HW9.out⟩, by simp [intOf]; omega⟩
    · obtain rfl : j = 6 := by omega
      go_wp2
      go_ret
      exact ⟨_, M, rfl, HM.out, OA.out.mono HB2.out, D.out.S, D.out.gr⟩
/- The reference's drawing functions of valuations, by the shape of what they draw (written by program, gendr10.py). -/
set_option maxRecDepth 100000 in
set_option maxHeartbeats 1000000 in
theorem spec_l17Draw (w0 : World) (v : Value) (xs : List (Fin 256)) (w : World) (g : Nat) (size : Nat) (S : Src 69 w0 v xs w g) (h8 : size ≤ 8) (h1 : 1 ≤ size) :
    Calls Tryz.prog 16 #[.pointer (some ⟨g, 0, none⟩), .int .i64 (size : Int)] w fun e w' => ∃ (n : Int) (u1 : Value) (L1 V : List Int) (g2 c2 o : Nat), e = .returned (.tuple #[.agg #[.int .i64 n, u1], .slice (some ⟨g2, o, none⟩) (6 - o) (c2 - o)]) ∧ n ≤ 1000 ∧ L1.length ≤ 9 ∧ V.length = 6 ∧ o ≤ 1 ∧ Ow cI 2 w.heap.size w' u1 L1 ∧ Ow cI 2 w.heap.size w' (.slice (some ⟨g2, 0, none⟩) 6 c2) V ∧ (∀ k, u1.ownBlock = some k → k ≠ g2) ∧ Src 69 w0 v xs w' g ∧ w.grownBy w' (some g) := by
  have hm2 : ∀ w : World, (Instr.makeSlice 24 (.int .i64 6) (.int .i64 6)).run Tryz.prog w = .ok (.slice (some ⟨w.heap.size, 0, none⟩) 6 6) (w.alloc (.cells (mkz 6) 2)) := fun w => run_mkz 6 (by omega) w
  have HM2 := Lib.hid hm2
  clear hm2
  have D := Lib.hid (Dg.start S)
  clear S
  go_enter Tryz.func16, Tryz.ntmps16
  have R0 := Blk.new w 26 #[.int .i64 0, .slice none 0 0]
  have HB : Hid (w.heap.size ≤ w.heap.size + 1) := Lib.hid (Nat.le_succ _)
  go_upto_region 1 with fail
  have hb := below_alloc' w (.cells #[.int .i64 0, .slice none 0 0] 26)
  have R := Lib.hid R0
  clear R0
  replace D := Lib.hid (D.out.below hb)
  clear hb
  generalize World.alloc w _ = W at *
  go_wp2_with fail
  refine (spec_l16Draw _ _ _ _ _ size D.out.S h8 h1).mono ?_
  rintro e w1 ⟨n, u, L, rfl, hn, hl, O, hS, hg⟩
  replace O := Lib.hid (O.mono (R.out.lt))
  replace R := Lib.hid (D.out.blk R.out (Nat.le_refl _) hg)
  replace D := Lib.hid (D.out.call hS hg)
  clear hS hg
  obtain ⟨A, c, rfl⟩ := O.out.opn
  have NB := Lib.hid (O.out.block)
  go_upto_region 2 with fail
  have hb := below_alloc' w1 (.cells #[.int .i64 n, .slice A L.length c] 26)
  have F := Lib.hid (Blk.new w1 26 #[.int .i64 n, .slice A L.length c])
  have ZF : Hid (w.heap.size + 1 ≤ w1.heap.size) := Lib.hid R.out.lt
  replace O := Lib.hid (O.out.below hb)
  replace R := Lib.hid (R.out.below hb R.out.lt)
  replace D := Lib.hid (D.out.below hb)
  clear hb
  obtain ⟨fb, hfb⟩ : ∃ b, w1.heap.size = b := ⟨_, rfl⟩
  generalize hW2 : World.alloc w1 _ = WF at *
  rw [hfb] at F ZF ⊢
  have NF : Hid (∀ k, (Value.slice A L.length c).ownBlock = some k → k < fb) := Lib.hid (fun k hk => by have := (NB.out k hk).2; omega)
  clear NB
  clear hW2 hfb
  have kf := F.out.cell
  have lf := F.out.lt
  go_wp2_with fail
  clear kf lf
  refine (spec_l16Is n _ L _ O.out.sl (by omega)).mono ?_
  rintro e w2 ⟨rfl, hb⟩
  replace O := Lib.hid (O.out.below hb)
  replace R := Lib.hid (R.out.below hb R.out.lt)
  replace F := Lib.hid (F.out.below hb F.out.lt)
  replace D := Lib.hid (D.out.below hb)
  clear hb
  cases hps : psOk n L
  · skip
    go_upto_region 3 with fail
    have hb := (Below.refl w2.heap.size w2).drew
    replace O := Lib.hid (O.out.below hb)
    replace R := Lib.hid (R.out.below hb R.out.lt)
    replace F := Lib.hid (F.out.below hb F.out.lt)
    replace D := Lib.hid (D.out.below hb)
    clear hb
    have hI : (fun X : World => X.cell? ⟨fb, 0, none⟩ = some (.int .i64 n) ∧ X.cell? ⟨fb, 1, none⟩ = some (.slice A L.length c)) (World.drew w2) := ⟨F.out.cell 0, F.out.cell 1⟩
    refine wp_region_tree (fun X => X.cell? ⟨fb, 0, none⟩ = some (.int .i64 n) ∧ X.cell? ⟨fb, 1, none⟩ = some (.slice A L.length c)) 4 (.q 0 (.rr 1 2 (.r 2 (.r 3 .fin)) (.r 1 (.r 3 .fin)))) (by kernel_rfl) (by kernel_rfl) hI ?_
    generalize World.drew w2 = X at *
    repeat
      apply wpT_q rfl
      case h =>
        intro w' hI K hK
        have cc0 : w'.cell? ⟨fb, 0, none⟩ = some (.int .i64 n) := hI.1
        have cc1 : w'.cell? ⟨fb, 1, none⟩ = some (.slice A L.length c) := hI.2
        simp only [quietV, stillV]
        go_simp
        exact hK
      go_simp
    have nef : fb ≠ w.heap.size := by have := ZF.out; omega
    have O8 := Lib.hid ((O.out.setBelow (p := ⟨w.heap.size, 0, none⟩) (Nat.lt_succ_self _) (.int .i64 n)).setBelow (p := ⟨w.heap.size, 1, none⟩) (Nat.lt_succ_self _) (.slice A L.length c))
    have D8 := Lib.hid ((D.out.set (p := ⟨w.heap.size, 0, none⟩) (Nat.le_refl _) (.int .i64 n)).set (p := ⟨w.heap.size, 1, none⟩) (Nat.le_refl _) (.slice A L.length c))
    have R8 := Lib.hid ((R.out.set_ 0 (.int .i64 n)).set_ 1 (.slice A L.length c))
    have F8 := Lib.hid ((F.out.far (p := ⟨w.heap.size, 0, none⟩) nef (.int .i64 n)).far (p := ⟨w.heap.size, 1, none⟩) nef (.slice A L.length c))
    have hzs : (World.setCell (World.setCell X ⟨w.heap.size, 0, none⟩ (.int .i64 n)) ⟨w.heap.size, 1, none⟩ (.slice A L.length c)).heap.size = X.heap.size := by simp [World.setCell]
    have hbY := below_alloc' (World.setCell (World.setCell X ⟨w.heap.size, 0, none⟩ (.int .i64 n)) ⟨w.heap.size, 1, none⟩ (.slice A L.length c)) (.cells (mkz 6) 2)
    have hRl := R.out.lt
    have OZ := Lib.hid (O8.out.below hbY)
    have DZ := Lib.hid (D8.out.below hbY)
    have RZ := Lib.hid (R8.out.below hbY R8.out.lt)
    have FZ := Lib.hid (F8.out.below hbY F8.out.lt)
    have VZ : Hid (Ow cI 2 (w.heap.size + 1) (World.alloc (World.setCell (World.setCell X ⟨w.heap.size, 0, none⟩ (.int .i64 n)) ⟨w.heap.size, 1, none⟩ (.slice A L.length c)) (.cells (mkz 6) 2)) (.slice (some ⟨X.heap.size, 0, none⟩) 6 6) (List.replicate 6 0)) := Lib.hid (Ow.mkz (World.setCell (World.setCell X ⟨w.heap.size, 0, none⟩ (.int .i64 n)) ⟨w.heap.size, 1, none⟩ (.slice A L.length c)) 6 _ hzs.symm hRl (by omega))
    have NE2 : Hid (∀ k, (Value.slice A L.length c).ownBlock = some k → k ≠ X.heap.size) := Lib.hid (fun k hk => by have := NF.out k hk; have := F.out.lt; omega)
    have hIZ : (fun X : World => X.cell? ⟨fb, 0, none⟩ = some (.int .i64 n) ∧ X.cell? ⟨fb, 1, none⟩ = some (.slice A L.length c)) (World.alloc (World.setCell (World.setCell X ⟨w.heap.size, 0, none⟩ (.int .i64 n)) ⟨w.heap.size, 1, none⟩ (.slice A L.length c)) (.cells (mkz 6) 2)) := ⟨FZ.out.cell 0, FZ.out.cell 1⟩
    have hI8 : (fun X : World => X.cell? ⟨fb, 0, none⟩ = some (.int .i64 n) ∧ X.cell? ⟨fb, 1, none⟩ = some (.slice A L.length c)) (World.setCell (World.setCell X ⟨w.heap.size, 0, none⟩ (.int .i64 n)) ⟨w.heap.size, 1, none⟩ (.slice A L.length c)) := ⟨F8.out.cell 0, F8.out.cell 1⟩
    have hIY : (fun X : World => X.cell? ⟨fb, 0, none⟩ = some (.int .i64 n) ∧ X.cell? ⟨fb, 1, none⟩ = some (.slice A L.length c)) (World.alloc X (.cells (mkz 6) 2)) := by have := F.out.below (below_alloc' X (.cells (mkz 6) 2)) F.out.lt; exact ⟨this.cell 0, this.cell 1⟩
    have KR := Lib.hid R.out.cell
    have FR := Lib.hid R.out.frozen
    have LR := Lib.hid R.out.lt
    clear hbY hzs nef hRl
    refine wpT_rr rfl rfl ?_ ?_ hI
    · skip
      intro K hK _
      have hm2 := HM2.out
      go_simp
      refine hK _ _ hIY ?_
      clear hK K hm2
      refine wpT_r rfl ?_ hIY
      intro K hK _
      go_simp
      have kr := KR.out
      have fr := FR.out
      have lr := LR.out
      simp [kr, fr, lr, go_sem]
      refine hK _ _ hIZ ?_
      clear hK K kr fr lr
      refine wpT_r rfl ?_ hIZ
      intro K hK _
      go_simp
      refine hK _ _ hIZ ?_
      clear hK K
      refine wpT_fin ?_
      try simp only [List.drop_succ_cons, List.drop_zero, List.drop_nil]
      clear hIZ hI8 hIY hI
      have kr := RZ.out.cell
      have fr := RZ.out.frozen
      have lr := RZ.out.lt
      go_wp2
      refine bodyPost_ret (v := .tuple #[.agg #[.int .i64 n, .slice A L.length c], .slice (some ⟨X.heap.size, 0, none⟩) 6 6]) (by simp [results, Tryz.results16, go_sem, kr, fr, lr]) rfl ⟨n, _, L, (List.replicate 6 0), X.heap.size, 6, 0, rfl, by omega, by omega, by simp, by omega, ?_, ?_, NE2.out, ?_, ?_⟩
      · exact OZ.out.mono HB.out
      · exact VZ.out.mono HB.out
      · exact DZ.out.S
      · exact DZ.out.gr
    · skip
      intro K hK _
      go_simp
      have kr := KR.out
      have fr := FR.out
      have lr := LR.out
      simp [kr, fr, lr, go_sem]
      refine hK _ _ hI8 ?_
      clear hK K kr fr lr
      refine wpT_r rfl ?_ hI8
      intro K hK _
      have hm2 := HM2.out
      go_simp
      refine hK _ _ hIZ ?_
      clear hK K hm2
      refine wpT_r rfl ?_ hIZ
      intro K hK _
      go_simp
      refine hK _ _ hIZ ?_
      clear hK K
      refine wpT_fin ?_
      try simp only [List.drop_succ_cons, List.drop_zero, List.drop_nil]
      clear hIZ hI8 hIY hI
      have kr := RZ.out.cell
      have fr := RZ.out.frozen
      have lr := RZ.out.lt
      go_wp2
      refine bodyPost_ret (v := .tuple #[.agg #[.int .i64 n, .slice A L.length c], .slice (some ⟨X.heap.size, 0, none⟩) 6 6]) (by simp [results, Tryz.results16, go_sem, kr, fr, lr]) rfl ⟨n, _, L, (List.replicate 6 0), X.heap.size, 6, 0, rfl, by omega, by omega, by simp, by omega, ?_, ?_, NE2.out, ?_, ?_⟩
      · exact OZ.out.mono HB.out
      · exact VZ.out.mono HB.out
      · exact DZ.out.S
      · exact DZ.out.gr
  · obtain ⟨ns, rfl, hnn, hr, -⟩ := psOk_iff hps
    subst hnn
    have HLn := Lib.hid (li_length ns)
    rw [HLn.out] at O F NF ⊢
    have h8n := hr.1
    have HN9 : Hid ((ns.length : Int) ≤ 1000) := Lib.hid (by omega)
    have HN8 : Hid ((li ns).length ≤ 9) := Lib.hid (by rw [HLn.out]; omega)
    clear hps hn hl
    have kf := F.out.cell
    have lf := F.out.lt
    have NW := Lib.hid (O.out.block)
    have HFB := Lib.hid F.out.lt
    go_wp2_with fail
    refine (spec_l17Some _ _ _ _ _ _ ns D.out.S O.out.sl hr).mono ?_
    rintro e w3 ⟨z, V, rfl, hV, OV, hS, hg⟩
    have NV := Lib.hid OV.block
    clear kf lf
    replace OV := Lib.hid (OV.mono (R.out.lt))
    replace O := Lib.hid (D.out.passB O.out HB.out hg)
    replace R := Lib.hid (D.out.blk R.out (Nat.le_refl _) hg)
    replace F := Lib.hid (D.out.blk F.out (Nat.le_of_succ_le ZF.out) hg)
    replace D := Lib.hid (D.out.call hS hg)
    clear hS hg
    obtain ⟨g2, c2, rfl, -, -, -⟩ := OV.out.form (by omega)
    rw [hV] at OV NV ⊢
    obtain ⟨-, hc6, hcm⟩ := OV.out.sl.cap
    rw [hV] at hc6
    have HC6 := Lib.hid hc6
    have HCM := Lib.hid hcm
    clear hcm
    have NE2 : Hid (∀ k, (Value.slice A ns.length c).ownBlock = some k → k ≠ g2) := Lib.hid (fun k hk e => by have h1 := (NW.out k hk).2; have h2 := (NV.out g2 rfl).1; omega)
    have NG : Hid (fb < g2) := Lib.hid (by have := (NV.out g2 rfl).1; have := HFB.out; omega)
    clear NW
    go_wp2_with fail
    refine (spec_l01Next _ _ _ _ _ 40 D.out.S (by decide) (by decide)).mono ?_
    rintro e w4 ⟨k, rfl, hk, hS, hg, -⟩
    replace O := Lib.hid (D.out.passB O.out HB.out hg)
    replace OV := Lib.hid (D.out.passB OV.out HB.out hg)
    replace R := Lib.hid (D.out.blk R.out (Nat.le_refl _) hg)
    replace F := Lib.hid (D.out.blk F.out (Nat.le_of_succ_le ZF.out) hg)
    replace D := Lib.hid (D.out.call hS hg)
    clear hS hg
    cases t0 : ((k : Int) == 0)
    · cases t1 : ((k : Int) == 1)
      · clear hk
        have kr := R.out.cell
        have fr := R.out.frozen
        have lr := R.out.lt
        have kf := F.out.cell
        have lf := F.out.lt
        go_wp2
        refine bodyPost_ret (v := .tuple #[.agg #[.int .i64 (ns.length : Int), .slice A ns.length c], .slice (some ⟨g2, 0, none⟩) 6 c2]) (by simp [results, Tryz.results16, go_sem, kr, fr, lr]) rfl ⟨_, _, (li ns), V, g2, c2, 0, rfl, HN9.out, HN8.out, hV, by omega, ?_, ?_, NE2.out, ?_, ?_⟩
        · exact ((O.out.setBelow (p := ⟨w.heap.size, 0, none⟩) (Nat.lt_succ_self _) _).setBelow (p := ⟨w.heap.size, 1, none⟩) (Nat.lt_succ_self _) _).mono HB.out
        · exact ((OV.out.setBelow (p := ⟨w.heap.size, 0, none⟩) (Nat.lt_succ_self _) _).setBelow (p := ⟨w.heap.size, 1, none⟩) (Nat.lt_succ_self _) _).mono HB.out
        · exact ((D.out.set (p := ⟨w.heap.size, 0, none⟩) (Nat.le_refl _) _).set (p := ⟨w.heap.size, 1, none⟩) (Nat.le_refl _) _).S
        · exact ((D.out.set (p := ⟨w.heap.size, 0, none⟩) (Nat.le_refl _) _).set (p := ⟨w.heap.size, 1, none⟩) (Nat.le_refl _) _).gr
      · clear hk hc6
        obtain ⟨F2, hF2⟩ : ∃ F2, F2 = 2 ^ ns.length - 1 := ⟨_, rfl⟩
        have hp2 := two_pow_256 h8n
        have hF256 : F2 < 256 := by have := Nat.pow_pos (n := ns.length) (show 0 < 2 by decide); omega
        have HF2 := Lib.hid hF2
        clear hF2 hp2
        go_upto_region 9 with fail
        have hb := (Below.refl w4.heap.size w4).drew
        replace O := Lib.hid (O.out.below hb)
        replace OV := Lib.hid (OV.out.below hb)
        replace R := Lib.hid (R.out.below hb R.out.lt)
        replace F := Lib.hid (F.out.below hb F.out.lt)
        replace D := Lib.hid (D.out.below hb)
        clear hb
        have hI : (fun X : World => X.cell? ⟨fb, 0, none⟩ = some (.int .i64 (ns.length : Int)) ∧ X.cell? ⟨fb, 1, none⟩ = some (.slice A ns.length c)) (World.drew w4) := ⟨F.out.cell 0, F.out.cell 1⟩
        refine wp_region_sched (fun X => X.cell? ⟨fb, 0, none⟩ = some (.int .i64 (ns.length : Int)) ∧ X.cell? ⟨fb, 1, none⟩ = some (.slice A ns.length c)) 10 [0, 1, 3, 4, 5, 7, 9] [0, 1, 3, 4, 5, 2, 6, 7, 8, 9] (by kernel_rfl) (by kernel_rfl) hI ?_
        generalize World.drew w4 = w4d at *
        repeat
          apply wpSched_q rfl rfl
          case h =>
            intro w' hI K hK
            have cc0 : w'.cell? ⟨fb, 0, none⟩ = some (.int .i64 (ns.length : Int)) := hI.1
            have cc1 : w'.cell? ⟨fb, 1, none⟩ = some (.slice A ns.length c) := hI.2
            simp only [quietV, stillV]
            go_simp
            exact hK
          go_simp
        refine wpSched_r rfl rfl ?_ hI
        intro K hK _
        go_simp
        refine (spec_l01Next _ _ _ _ _ 6 D.out.S (by decide) (by decide)).mono ?_
        rintro e w5 ⟨k1, rfl, hk1, hS, hg, -⟩
        replace O := Lib.hid (D.out.passB O.out HB.out hg)
        replace OV := Lib.hid (D.out.passB OV.out HB.out hg)
        replace R := Lib.hid (D.out.blk R.out (Nat.le_refl _) hg)
        replace F := Lib.hid (D.out.blk F.out (Nat.le_of_succ_le ZF.out) hg)
        replace D := Lib.hid (D.out.call hS hg)
        clear hS hg
        have hk1' : k1 < V.length := by omega
        clear hk1
        clear hI
        have hI : (fun X : World => X.cell? ⟨fb, 0, none⟩ = some (.int .i64 (ns.length : Int)) ∧ X.cell? ⟨fb, 1, none⟩ = some (.slice A ns.length c)) w5 := ⟨F.out.cell 0, F.out.cell 1⟩
        refine hK _ _ hI ?_
        clear hK K
        repeat
          apply wpSched_q rfl rfl
          case h =>
            intro w' hI K hK
            have cc0 : w'.cell? ⟨fb, 0, none⟩ = some (.int .i64 (ns.length : Int)) := hI.1
            have cc1 : w'.cell? ⟨fb, 1, none⟩ = some (.slice A ns.length c) := hI.2
            simp only [quietV, stillV]
            go_simp
            exact hK
          go_simp
        refine wpSched_r rfl rfl ?_ hI
        intro K hK _
        go_simp
        refine (spec_l01Full' ns.length F2 HF2.out _ (by omega)).mono ?_
        rintro e w8 ⟨rfl, rfl⟩
        clear hI
        have hI : (fun X : World => X.cell? ⟨fb, 0, none⟩ = some (.int .i64 (ns.length : Int)) ∧ X.cell? ⟨fb, 1, none⟩ = some (.slice A ns.length c)) w5 := ⟨F.out.cell 0, F.out.cell 1⟩
        refine hK _ _ hI ?_
        clear hK K
        repeat
          apply wpSched_q rfl rfl
          case h =>
            intro w' hI K hK
            have cc0 : w'.cell? ⟨fb, 0, none⟩ = some (.int .i64 (ns.length : Int)) := hI.1
            have cc1 : w'.cell? ⟨fb, 1, none⟩ = some (.slice A ns.length c) := hI.2
            simp only [quietV, stillV]
            go_simp
            exact hK
          go_simp
        refine wpSched_r rfl rfl ?_ hI
        intro K hK _
        go_simp
        rw [show IntKind.i64.wrap ((F2 : Int) + 3) = (F2 : Int) + 3 from IntWalk.i64_in _ ⟨by omega, by omega⟩]
        refine (spec_l01Next _ _ _ _ _ ((F2 : Int) + 3) D.out.S (by omega) (by omega)).mono ?_
        rintro e w6 ⟨y, rfl, hy, hS, hg, -⟩
        replace O := Lib.hid (D.out.passB O.out HB.out hg)
        replace OV := Lib.hid (D.out.passB OV.out HB.out hg)
        replace R := Lib.hid (D.out.blk R.out (Nat.le_refl _) hg)
        replace F := Lib.hid (D.out.blk F.out (Nat.le_of_succ_le ZF.out) hg)
        replace D := Lib.hid (D.out.call hS hg)
        clear hS hg
        have hyb : (y : Int) < 300 := by omega
        clear hy
        clear hI
        have hI : (fun X : World => X.cell? ⟨fb, 0, none⟩ = some (.int .i64 (ns.length : Int)) ∧ X.cell? ⟨fb, 1, none⟩ = some (.slice A ns.length c)) w6 := ⟨F.out.cell 0, F.out.cell 1⟩
        refine hK _ _ hI ?_
        clear hK K
        repeat
          apply wpSched_q rfl rfl
          case h =>
            intro w' hI K hK
            simp only [quietV, stillV]
            go_simp
            exact hK
          go_simp
        refine wpSched_nil ?_
        try simp only [List.drop_succ_cons, List.drop_zero, List.drop_nil]
        try rw [show IntKind.i64.wrap ((y : Int) - 1) = (y : Int) - 1 from IntWalk.i64_in _ ⟨by omega, by omega⟩]
        obtain ⟨cx2, f2, -, -⟩ := OV.out.at1 rfl hk1' rfl
        have i61 : (k1 : Int) < 6 := by rw [hV] at hk1'; omega
        have OV9 := Lib.hid (OV.out.set1 (j := k1) (x := ((y : Int) - 1)) (u := .int .i64 ((y : Int) - 1)) rfl rfl hk1')
        have V9 := Lib.hid (show (V.set k1 ((y : Int) - 1)).length = 6 by rw [List.length_set]; exact hV)
        have D9 := Lib.hid (D.out.set (p := ⟨g2, k1, none⟩) (show w.heap.size ≤ g2 from Nat.le_trans HB.out (OV.out.block g2 rfl).1) (.int .i64 ((y : Int) - 1)))
        have F9 := Lib.hid (F.out.far (p := ⟨g2, k1, none⟩) (fun e => by have eq : fb = g2 := e; have := NG.out; omega) (.int .i64 ((y : Int) - 1)))
        have R9 := Lib.hid (R.out.far (p := ⟨g2, k1, none⟩) (fun e => by have eq : w.heap.size = g2 := e; have := (OV.out.block g2 rfl).1; omega) (.int .i64 ((y : Int) - 1)))
        have O9 := Lib.hid (O.out.far (p := ⟨g2, k1, none⟩) (fun e => NE2.out g2 e rfl) (.int .i64 ((y : Int) - 1)))
        clear hI O D F R OV hV
        have O := O9
        have D := D9
        have F := F9
        have R := R9
        have OV := OV9
        clear O9 D9 F9 R9 OV9
        have kf := F.out.cell
        have lf := F.out.lt
        go_upto_region 10 with fail
        generalize World.setCell w6 _ _ = W9 at *
        clear kf lf cx2 f2 i61
        have kr := R.out.cell
        have fr := R.out.frozen
        have lr := R.out.lt
        have kf := F.out.cell
        have lf := F.out.lt
        go_wp2
        refine bodyPost_ret (v := .tuple #[.agg #[.int .i64 (ns.length : Int), .slice A ns.length c], .slice (some ⟨g2, 0, none⟩) 6 c2]) (by simp [results, Tryz.results16, go_sem, kr, fr, lr]) rfl ⟨_, _, (li ns), (V.set k1 ((y : Int) - 1)), g2, c2, 0, rfl, HN9.out, HN8.out, V9.out, by omega, ?_, ?_, NE2.out, ?_, ?_⟩
        · exact ((O.out.setBelow (p := ⟨w.heap.size, 0, none⟩) (Nat.lt_succ_self _) _).setBelow (p := ⟨w.heap.size, 1, none⟩) (Nat.lt_succ_self _) _).mono HB.out
        · exact ((OV.out.setBelow (p := ⟨w.heap.size, 0, none⟩) (Nat.lt_succ_self _) _).setBelow (p := ⟨w.heap.size, 1, none⟩) (Nat.lt_succ_self _) _).mono HB.out
        · exact ((D.out.set (p := ⟨w.heap.size, 0, none⟩) (Nat.le_refl _) _).set (p := ⟨w.heap.size, 1, none⟩) (Nat.le_refl _) _).S
        · exact ((D.out.set (p := ⟨w.heap.size, 0, none⟩) (Nat.le_refl _) _).set (p := ⟨w.heap.size, 1, none⟩) (Nat.le_refl _) _).gr
    · clear hk
      go_upto_region 7 with fail
      have hb := (Below.refl w4.heap.size w4).drew
      replace O := Lib.hid (O.out.below hb)
      replace OV := Lib.hid (OV.out.below hb)
      replace R := Lib.hid (R.out.below hb R.out.lt)
      replace F := Lib.hid (F.out.below hb F.out.lt)
      replace D := Lib.hid (D.out.below hb)
      clear hb
      have hI : (fun X : World => X.cell? ⟨fb, 0, none⟩ = some (.int .i64 (ns.length : Int)) ∧ X.cell? ⟨fb, 1, none⟩ = some (.slice A ns.length c)) (World.drew w4) := ⟨F.out.cell 0, F.out.cell 1⟩
      refine wp_region_sched (fun X => X.cell? ⟨fb, 0, none⟩ = some (.int .i64 (ns.length : Int)) ∧ X.cell? ⟨fb, 1, none⟩ = some (.slice A ns.length c)) 4 [0, 1, 2] [0, 1, 2, 3] (by kernel_rfl) (by kernel_rfl) hI ?_
      generalize World.drew w4 = w4d at *
      repeat
        apply wpSched_q rfl rfl
        case h =>
          intro w' hI K hK
          have cc0 : w'.cell? ⟨fb, 0, none⟩ = some (.int .i64 (ns.length : Int)) := hI.1
          have cc1 : w'.cell? ⟨fb, 1, none⟩ = some (.slice A ns.length c) := hI.2
          simp only [quietV, stillV]
          go_simp
          exact hK
        go_simp
      refine wpSched_r rfl rfl ?_ hI
      intro K hK _
      go_simp
      have nef : fb ≠ w.heap.size := by have := ZF.out; omega
      have kr := R.out.cell
      have fr := R.out.frozen
      have lr := R.out.lt
      simp [kr, fr, lr, go_sem]
      have OZ := Lib.hid ((O.out.setBelow (p := ⟨w.heap.size, 0, none⟩) (Nat.lt_succ_self _) (.int .i64 (ns.length : Int))).setBelow (p := ⟨w.heap.size, 1, none⟩) (Nat.lt_succ_self _) (.slice A ns.length c))
      have VZ := Lib.hid ((OV.out.setBelow (p := ⟨w.heap.size, 0, none⟩) (Nat.lt_succ_self _) (.int .i64 (ns.length : Int))).setBelow (p := ⟨w.heap.size, 1, none⟩) (Nat.lt_succ_self _) (.slice A ns.length c))
      have DZ := Lib.hid ((D.out.set (p := ⟨w.heap.size, 0, none⟩) (Nat.le_refl _) (.int .i64 (ns.length : Int))).set (p := ⟨w.heap.size, 1, none⟩) (Nat.le_refl _) (.slice A ns.length c))
      have RZ := Lib.hid ((R.out.set_ 0 (.int .i64 (ns.length : Int))).set_ 1 (.slice A ns.length c))
      have F8 := Lib.hid ((F.out.far (p := ⟨w.heap.size, 0, none⟩) nef (.int .i64 (ns.length : Int))).far (p := ⟨w.heap.size, 1, none⟩) nef (.slice A ns.length c))
      have hI8 : (fun X : World => X.cell? ⟨fb, 0, none⟩ = some (.int .i64 (ns.length : Int)) ∧ X.cell? ⟨fb, 1, none⟩ = some (.slice A ns.length c)) (World.setCell (World.setCell w4d ⟨w.heap.size, 0, none⟩ (.int .i64 (ns.length : Int))) ⟨w.heap.size, 1, none⟩ (.slice A ns.length c)) := ⟨F8.out.cell 0, F8.out.cell 1⟩
      refine hK _ _ hI8 ?_
      clear hK K kr fr lr nef
      refine wpSched_nil ?_
      try simp only [List.drop_succ_cons, List.drop_zero, List.drop_nil]
      clear hI8 hI
      have kr := RZ.out.cell
      have fr := RZ.out.frozen
      have lr := RZ.out.lt
      go_wp2
      refine bodyPost_ret (v := .tuple #[.agg #[.int .i64 (ns.length : Int), .slice A ns.length c], .slice (some ⟨g2, 1, none⟩) 5 (c2 - 1)]) (by simp [results, Tryz.results16, go_sem, kr, fr, lr]) rfl ⟨_, _, (li ns), V, g2, c2, 1, rfl, HN9.out, HN8.out, hV, by omega, ?_, ?_, NE2.out, ?_, ?_⟩
      · exact OZ.out.mono HB.out
      · exact VZ.out.mono HB.out
      · exact DZ.out.S
      · exact DZ.out.gr
/- The reference's drawing functions of a valuation to be merged and of a forced set, by the shape of what they draw. -/
theorem spec_l17Plain (w0 : World) (v : Value) (xs : List (Fin 256)) (w : World) (g : Nat) (size vars : Int) (S : Src 69 w0 v xs w g) (hs1 : 1 ≤ size) (hs2 : size ≤ 47) (hv1 : 1 ≤ vars) (hv2 : vars ≤ 1000) :
    Calls Tryz.prog 29 #[.pointer (some ⟨g, 0, none⟩), .int .i64 size, .int .i64 vars] w fun e w' => ∃ u L', e = .returned u ∧ L'.length ≤ 1001 ∧ Ow cN 84 w.heap.size w' u L' ∧ Src 69 w0 v xs w' g ∧ w.grownBy w' (some g) := by
  have D := Lib.hid (Dg.start S)
  clear S
  go_enter Tryz.func29, Tryz.ntmps29
  go_wp2_with fail
  refine (spec_l01Next _ _ _ _ _ 30 D.out.S (by decide) (by decide)).mono ?_
  rintro e w1 ⟨k, rfl, hk, hS, hg, -⟩
  replace D := Lib.hid (D.out.call hS hg)
  clear hS hg hk
  go_wp2_with fail
  refine (spec_l02Any _ _ _ _ _ size vars _ D.out.S hs1 hs2 hv1 hv2).mono ?_
  rintro e w2 ⟨u, L', rfl, hL, O, hS, hg⟩
  replace O := Lib.hid (O.mono D.out.size)
  replace D := Lib.hid (D.out.call hS hg)
  have HL := Lib.hid hL
  clear hS hg hL
  go_wp2
  go_ret
  exact ⟨_, L', rfl, HL.out, O.out, D.out.S, D.out.gr⟩
set_option maxRecDepth 100000 in
set_option maxHeartbeats 1000000 in
theorem spec_DrawMergeAlike (v : Value) (xs : List (Fin 256)) (w : World) (h : Sl cY w v xs) (hl : xs.length ≤ 4096) :
    Calls Tryz.prog 5 #[v] w fun e w' => ∃ (n : Int) (u1 u2 : Value) (L1 L2 : List Int), e = .returned (.tuple #[.agg #[.int .i64 n, u1], u2]) ∧ L1.length ≤ 9 ∧ L2.length ≤ 6 ∧ Sl cI w' u1 L1 ∧ Sl cI w' u2 L2 ∧ Below w.heap.size w w' := by
  have hb1 := below_alloc' w (.cells #[.int .i64 0, .slice none 0 0] 26)
  have HK1 := Lib.hid (Blk.new w 26 #[.int .i64 0, .slice none 0 0])
  have HH := Lib.hid (h.below hb1)
  have HB := Lib.hid hb1
  clear hb1
  go_enter Tryz.func5, Tryz.ntmps5
  go_upto_region 1 with fail
  generalize World.alloc w _ = W at *
  go_wp2_with fail
  refine (spec_l01From v xs W HH.out hl).mono ?_
  rintro e w1 ⟨rfl, hS, hb⟩
  have Z1 : Hid (w.heap.size < W.heap.size) := Lib.hid HK1.out.lt
  have Z2 : Hid (W.heap.size ≤ w1.heap.size) := Lib.hid hb.size
  have HK := Lib.hid (HK1.out.below hb HK1.out.lt)
  replace HB := Lib.hid (bthen HB.out hb)
  have D := Lib.hid (Dg.start hS)
  clear hb HK1 hS HH
  obtain ⟨g, hgW⟩ : ∃ g, W.heap.size = g := ⟨_, rfl⟩
  rw [hgW] at D Z1 Z2 ⊢
  clear hgW
  go_wp2_with fail
  refine (spec_l17Draw _ v xs w1 g 6 D.out.S (by decide) (by decide)).mono ?_
  rintro e w2 ⟨n, u1, L1, V, g2, c2, o, rfl, hn, hl1, hV, ho, O, OV, NE, hS, hg⟩
  replace HK := Lib.hid (HK.out.grown hg (fun e => by injection e; have := Z1.out; omega))
  replace HB := Lib.hid (below_grown HB.out hg (by have := Z1.out; have := Z2.out; omega) (fun k e => by injection e; have := Z1.out; omega))
  replace D := Lib.hid (D.out.call hS hg)
  have DL : Hid (g < w1.heap.size) := Lib.hid D.out.lt
  have DS : Hid (w1.heap.size ≤ w2.heap.size) := Lib.hid D.out.size
  obtain ⟨A, c, rfl⟩ := O.opn
  have O := Lib.hid O
  have OV := Lib.hid OV
  have NE := Lib.hid NE
  have HL1 := Lib.hid hl1
  have HCap := Lib.hid OV.out.sl.cap
  clear hS hg hn hl1
  go_upto_region 3 with fail
  have hb := below_alloc' w2 (.cells #[.int .i64 n, .slice A L1.length c] 26)
  have F := Lib.hid (Blk.new w2 26 #[.int .i64 n, .slice A L1.length c])
  have NG : Hid (g2 < w2.heap.size) := Lib.hid (OV.out.block g2 rfl).2
  have NO := Lib.hid (fun k hk => (O.out.block k hk).2)
  have ZP : Hid (w.heap.size < w2.heap.size) := Lib.hid HK.out.lt
  replace HK := Lib.hid (HK.out.below hb HK.out.lt)
  replace HB := Lib.hid (bthen HB.out hb)
  replace D := Lib.hid (D.out.below hb)
  replace O := Lib.hid (O.out.below hb)
  replace OV := Lib.hid (OV.out.below hb)
  have ZG : Hid (g < w2.heap.size) := Lib.hid (Nat.lt_of_lt_of_le DL.out DS.out)
  have ZW : Hid (w1.heap.size ≤ w2.heap.size) := Lib.hid DS.out
  clear hb
  obtain ⟨pb, hpb⟩ : ∃ b, w2.heap.size = b := ⟨_, rfl⟩
  rw [hpb] at F NG NO ZP ZG ZW ⊢
  clear hpb
  generalize World.alloc w2 _ = w3 at *
  go_wp2_with fail
  refine (spec_l01Next _ _ _ _ _ 3 D.out.S (by decide) (by decide)).mono ?_
  rintro e w4 ⟨k, rfl, hk, hS, hg, -⟩
  replace O := Lib.hid (D.out.passB O.out (Nat.le_refl _) hg)
  replace OV := Lib.hid (D.out.passB OV.out (Nat.le_refl _) hg)
  replace F := Lib.hid (F.out.grown hg (fun e => by injection e; have := ZG.out; omega))
  replace HK := Lib.hid (HK.out.grown hg (fun e => by injection e; have := Z1.out; omega))
  replace HB := Lib.hid (below_grown HB.out hg (by have := F.out; have := ZP.out; have := HB.out.size; omega) (fun k e => by injection e; have := Z1.out; omega))
  clear hS hg D
  have hk3 : k ≤ 3 := by omega
  clear hk
  go_wp2
  go_loopw [7] (fun i wr => ∃ (t : Nat) (M : List Int), i = .int .i64 (t : Int) ∧ t ≤ 6 ∧ M.length = 6 ∧ Ow cI 2 w1.heap.size wr (.slice A L1.length c) L1 ∧ Ow cI 2 w1.heap.size wr (.slice (some ⟨g2, 0, none⟩) 6 c2) M ∧ Blk wr pb 26 #[.int .i64 n, .slice A L1.length c] ∧ Blk wr w.heap.size 26 #[.int .i64 0, .slice none 0 0] ∧ Below w.heap.size w wr) (fun i _ => 6 - (intOf i).toNat)
  case atStart => exact ⟨k, V, rfl, by omega, hV, O.out, OV.out, F.out, HK.out, HB.out⟩
  case round =>
    clear O OV F HK HB hV
    obtain ⟨t, M, rfl, ht, hM, O, OV, F, HK, HB⟩ := hrel
    obtain ⟨w5, hw5⟩ : ∃ W, W = wr := ⟨_, rfl⟩
    subst hw5
    replace O := Lib.hid O
    replace OV := Lib.hid OV
    replace F := Lib.hid F
    replace HK := Lib.hid HK
    replace HB := Lib.hid HB
    have zs := HB.out.size
    by_cases hlt : t < 6 - o
    · have hjl : o + t < M.length := by omega
      obtain ⟨cx, fx, -, -⟩ := OV.out.at1 rfl hjl rfl
      generalize M[o + t] = mx at cx
      have OV9 := Lib.hid (OV.out.set1 (j := o + t) (x := 0) (u := .int .i64 0) rfl rfl hjl)
      have O9 := Lib.hid (O.out.far (p := ⟨g2, o + t, none⟩) (fun e => NE.out g2 e rfl) (.int .i64 0))
      have F9 := Lib.hid (F.out.far (p := ⟨g2, o + t, none⟩) (fun e => by have eq : pb = g2 := e; have := NG.out; omega) (.int .i64 0))
      have K9 := Lib.hid (HK.out.far (p := ⟨g2, o + t, none⟩) (fun e => by have eq : w.heap.size = g2 := e; have := (OV.out.block g2 rfl).1; have := Z1.out; have := DL.out; omega) (.int .i64 0))
      have B9 := Lib.hid (HB.out.setCell (p := ⟨g2, o + t, none⟩) (by have := (OV.out.block g2 rfl).1; have := Z1.out; have := DL.out; show w.heap.size ≤ g2; omega) (.int .i64 0))
      have M9 := Lib.hid (show (M.set (o + t) 0).length = 6 by rw [List.length_set]; exact hM)
      have i6 : (t : Int) < ((6 - o : Nat) : Int) := by omega
      have i7 : t < 6 - o := hlt
      clear hM hjl
      go_wp2
      exact ⟨⟨t + 1, M.set (o + t) 0, by go_num, by omega, M9.out, O9.out, OV9.out, F9.out, K9.out, B9.out⟩, by simp [intOf]; omega⟩
    · have kf := F.out.cell
      have lf := F.out.lt
      have kr := HK.out.cell
      have fr := HK.out.frozen
      have lr := HK.out.lt
      have hp : w.heap.size < w1.heap.size := by have := Z1.out; have := DL.out; omega
      have i6 : ¬ (t : Int) < ((6 - o : Nat) : Int) := by omega
      have HM := Lib.hid hM
      have HO := Lib.hid ho
      clear hM ho
      go_wp2
      refine bodyPost_ret (v := .tuple #[.agg #[.int .i64 n, .slice A L1.length c], .slice (some ⟨g2, o, none⟩) (6 - o) (c2 - o)]) (by simp [results, Tryz.results5, go_sem, kr, fr, lr]) rfl ⟨n, _, _, rfl, L1, HL1.out, (M.drop o).take (6 - o), by rw [List.length_take]; omega, ?_, ?_, ?_⟩
      · exact ((O.out.setBelow (p := ⟨w.heap.size, 0, none⟩) hp _).setBelow (p := ⟨w.heap.size, 1, none⟩) hp _).sl
      · have hc := HCap.out
        have hoo := HO.out
        exact ((OV.out.setBelow (p := ⟨w.heap.size, 0, none⟩) hp _).setBelow (p := ⟨w.heap.size, 1, none⟩) hp _).sl.cutAt (i := o) (j := 6) (by omega) (by rw [HM.out]; exact Nat.le_refl _) rfl (fun b o' e => by injection e with e; injection e with e1 e2; subst e1; subst e2; simp [cI]) (by omega) (by omega)
      · exact (HB.out.setCell (p := ⟨w.heap.size, 0, none⟩) (Nat.le_refl _) _).setCell (p := ⟨w.heap.size, 1, none⟩) (Nat.le_refl _) _
set_option maxRecDepth 100000 in
set_option maxHeartbeats 1000000 in
theorem spec_DrawForcedSet (v : Value) (xs : List (Fin 256)) (w : World) (h : Sl cY w v xs) (hl : xs.length ≤ 4096) :
    Calls Tryz.prog 10 #[v] w fun e w' => ∃ (n : Int) (B1 : Option Addr) (k1 d1 : Nat) (x2 u3 : Value) (L3 : List Nd), e = .returned (.tuple #[.agg #[.int .i64 n, .slice B1 k1 d1], x2, u3]) ∧ L3.length ≤ 1001 ∧ Sl cN w' u3 L3 ∧ Below w.heap.size w w' := by
  have hb1 := below_alloc' w (.cells #[.int .i64 0, .slice none 0 0] 26)
  have HK1 := Lib.hid (Blk.new w 26 #[.int .i64 0, .slice none 0 0])
  have HH := Lib.hid (h.below hb1)
  have HB := Lib.hid hb1
  clear hb1
  go_enter Tryz.func10, Tryz.ntmps10
  go_upto_region 1 with fail
  generalize World.alloc w _ = W at *
  go_wp2_with fail
  refine (spec_l01From v xs W HH.out hl).mono ?_
  rintro e w1 ⟨rfl, hS, hb⟩
  have Z1 : Hid (w.heap.size < W.heap.size) := Lib.hid HK1.out.lt
  have Z2 : Hid (W.heap.size ≤ w1.heap.size) := Lib.hid hb.size
  have HK := Lib.hid (HK1.out.below hb HK1.out.lt)
  replace HB := Lib.hid (bthen HB.out hb)
  have D := Lib.hid (Dg.start hS)
  clear hb HK1 hS HH
  obtain ⟨g, hgW⟩ : ∃ g, W.heap.size = g := ⟨_, rfl⟩
  rw [hgW] at D Z1 Z2 ⊢
  clear hgW
  go_wp2_with fail
  refine (spec_l17Draw _ v xs w1 g 8 D.out.S (by decide) (by decide)).mono ?_
  rintro e w2 ⟨n, u1, L1, V, g2, c2, o, rfl, hn, hl1, hV, ho, O, OV, NE, hS, hg⟩
  replace HK := Lib.hid (HK.out.grown hg (fun e => by injection e; have := Z1.out; omega))
  replace HB := Lib.hid (below_grown HB.out hg (by have := Z1.out; have := Z2.out; omega) (fun k e => by injection e; have := Z1.out; omega))
  replace D := Lib.hid (D.out.call hS hg)
  have DL : Hid (g < w1.heap.size) := Lib.hid D.out.lt
  have DS : Hid (w1.heap.size ≤ w2.heap.size) := Lib.hid D.out.size
  obtain ⟨A, c, rfl⟩ := O.opn
  clear hS hg hn hl1 O OV NE hV ho
  go_upto_region 3 with fail
  have hb := bthen (below_alloc' w2 (.cells #[.int .i64 n, .slice A L1.length c] 26)) (below_drewN (Below.refl (w2.alloc (.cells #[.int .i64 n, .slice A L1.length c] 26)).heap.size _) 1)
  have F : Hid (Blk (w2.alloc (.cells #[.int .i64 n, .slice A L1.length c] 26)) w2.heap.size 26 #[.int .i64 n, .slice A L1.length c]) := Lib.hid (Blk.new w2 26 #[.int .i64 n, .slice A L1.length c])
  have hK2 := HK.out.lt
  replace HK := Lib.hid (HK.out.below hb hK2)
  replace HB := Lib.hid (bthen HB.out hb)
  replace D := Lib.hid (D.out.below hb)
  clear hb
  have ZPB : Hid (g < w2.heap.size) := Lib.hid (Nat.lt_of_lt_of_le DL.out DS.out)
  obtain ⟨pb, hpb⟩ : ∃ b, w2.heap.size = b := ⟨_, rfl⟩
  rw [hpb] at F ZPB hK2 ⊢
  clear hpb
  have hI : (fun X : World => X.cell? ⟨pb, 0, none⟩ = some (.int .i64 n) ∧ X.cell? ⟨pb, 1, none⟩ = some (.slice A L1.length c)) (World.drew (w2.alloc (.cells #[.int .i64 n, .slice A L1.length c] 26))) := ⟨F.out.cell 0, F.out.cell 1⟩
  refine wp_region_sched (fun X : World => X.cell? ⟨pb, 0, none⟩ = some (.int .i64 n) ∧ X.cell? ⟨pb, 1, none⟩ = some (.slice A L1.length c)) 6 [0, 1, 2] [0, 1, 2, 3, 4, 5] (by kernel_rfl) (by kernel_rfl) hI ?_
  replace HK : Hid (Blk (World.drew (w2.alloc (.cells #[.int .i64 n, .slice A L1.length c] 26))) w.heap.size 26 #[.int .i64 0, .slice none 0 0]) := HK
  replace HB : Hid (Below w.heap.size w (World.drew (w2.alloc (.cells #[.int .i64 n, .slice A L1.length c] 26)))) := HB
  replace D : Hid (Dg W v xs g w1 (World.drew (w2.alloc (.cells #[.int .i64 n, .slice A L1.length c] 26)))) := D
  replace F : Hid (Blk (World.drew (w2.alloc (.cells #[.int .i64 n, .slice A L1.length c] 26))) pb 26 #[.int .i64 n, .slice A L1.length c]) := F
  generalize World.drew (World.alloc w2 _) = w3 at *
  repeat
    apply wpSched_q rfl rfl
    case h =>
      intro w' hI K hK
      have cc0 : w'.cell? ⟨pb, 0, none⟩ = some (.int .i64 n) := hI.1
      have cc1 : w'.cell? ⟨pb, 1, none⟩ = some (.slice A L1.length c) := hI.2
      simp only [quietV, stillV]
      go_simp
      exact hK
    go_simp
  refine wpSched_r rfl rfl ?_ hI
  intro K hK _
  go_simp
  have HKl := HK.out.lt
  refine (spec_l17Plain _ _ _ _ _ 20 6 D.out.S (by decide) (by decide) (by decide) (by decide)).mono ?_
  rintro e w4 ⟨u, L3, rfl, hL3, O, hS, hg⟩
  obtain ⟨A3, c3, rfl⟩ := O.opn
  have ZB : Hid (w.heap.size < w3.heap.size) := Lib.hid HKl
  replace F := Lib.hid (F.out.grown hg (fun e => by injection e; have := D.out.lt; have := ZPB.out; omega))
  replace HK := Lib.hid (HK.out.grown hg (fun e => by injection e; have := Z1.out; omega))
  replace HB := Lib.hid (below_grown HB.out hg (by omega) (fun k e => by injection e; have := Z1.out; omega))
  have O3 := Lib.hid O
  clear hI hg hS O D
  have hI : (fun X : World => X.cell? ⟨pb, 0, none⟩ = some (.int .i64 n) ∧ X.cell? ⟨pb, 1, none⟩ = some (.slice A L1.length c)) w4 := ⟨F.out.cell 0, F.out.cell 1⟩
  refine hK _ _ hI ?_
  clear hK K
  refine wpSched_r rfl rfl ?_ hI
  intro K hK _
  go_simp
  have kr := HK.out.cell
  have fr := HK.out.frozen
  have lr := HK.out.lt
  simp [kr, fr, lr, go_sem]
  have nem : pb ≠ w.heap.size := by omega
  have HR := Lib.hid ((HK.out.set_ 0 (.int .i64 n)).set_ 1 (.slice A L1.length c))
  have hI2 : (fun X : World => X.cell? ⟨pb, 0, none⟩ = some (.int .i64 n) ∧ X.cell? ⟨pb, 1, none⟩ = some (.slice A L1.length c)) (World.setCell (World.setCell w4 ⟨w.heap.size, 0, none⟩ (.int .i64 n)) ⟨w.heap.size, 1, none⟩ (.slice A L1.length c)) := ⟨((F.out.far nem _).far nem _).cell 0, ((F.out.far nem _).far nem _).cell 1⟩
  refine hK _ _ hI2 ?_
  clear hK K kr fr lr hI
  refine wpSched_r rfl rfl ?_ hI2
  intro K hK _
  go_simp
  refine hK _ _ hI2 ?_
  clear hK K
  refine wpSched_nil ?_
  try simp only [List.drop_succ_cons, List.drop_zero, List.drop_nil]
  clear hI2 nem
  have kr := HR.out.cell
  have fr := HR.out.frozen
  have lr := HR.out.lt
  have HL3 := Lib.hid hL3
  clear hL3
  go_wp2
  refine bodyPost_ret (v := .tuple #[.agg #[.int .i64 n, .slice A L1.length c], .slice (some ⟨g2, o, none⟩) (6 - o) (c2 - o), .slice A3 L3.length c3]) (by simp [results, Tryz.results10, go_sem, kr, fr, lr]) rfl ⟨_, _, _, _, _, _, L3, rfl, HL3.out, ?_, ?_⟩
  · exact ((O3.out.setBelow (p := ⟨w.heap.size, 0, none⟩) ZB.out _).setBelow (p := ⟨w.heap.size, 1, none⟩) ZB.out _).sl
  · exact (HB.out.setCell (p := ⟨w.heap.size, 0, none⟩) (Nat.le_refl _) _).setCell (p := ⟨w.heap.size, 1, none⟩) (Nat.le_refl _) _
end Go.Proofs.YtomojninngdbeaaGreat

/- Joined of several texts: 18Y, 18Z. -/
import Derived.Test.YtgkogfjifcfkoaaGreatY31
namespace Go.Proofs.YtgkogfjifcfkoaaGreat
open Go.RowKit
set_option linter.unusedVariables false
set_option linter.unusedSimpArgs false
/- Heyting algebras, of the program: tables, classCount, slices.Index, onClasses. Written by gen18Y.py. -/
theorem slices_MaxM (v : Value) (cl : List Nat) (w : World) (h : Sl cI w v (li cl)) (h0 : 0 < cl.length) (hl : cl.length ≤ 1048576) (hb : ∀ i, cl.getD i 0 < 256) :
    Calls Tryz.prog 76 #[v] w fun e w' => e = .returned (.int .i64 (mx cl cl.length - 1 : Nat)) ∧ w = w' := by
  obtain ⟨A, c, rfl⟩ := h.opn
  have HL := Lib.hid (li_length cl)
  obtain ⟨b, o, rfl, hbl, hc0⟩ := h.atI (k := 0) (by rw [li_length]; exact h0)
  rw [li_get, Nat.add_zero] at hc0
  obtain ⟨y0, hy0⟩ : ∃ y, cl.getD 0 0 = y := ⟨_, rfl⟩
  rw [hy0] at hc0
  have HY := Lib.hid (show mx cl 1 = y0 + 1 by rw [← hy0]; simp [mx])
  have HS := Lib.hid h
  rw [HL.out] at HS ⊢
  have HB := Lib.hid hb
  clear h hb hy0
  have h1 : ¬ (cl.length : Int) < 1 := by omega
  go_enter Tryz.func76, Tryz.ntmps76
  go_wp2
  go_loop [3, 4] (fun m i => ∃ j q : Nat, 1 ≤ j ∧ j ≤ cl.length ∧ i = .int .i64 j ∧ m = .int .i64 q ∧ mx cl j = q + 1) (fun _ i => cl.length - (intOf i).toNat)
  case atStart => exact ⟨1, y0, Nat.le_refl _, h0, rfl, rfl, HY.out⟩
  case round =>
    obtain ⟨j, q, hj1, hj, rfl, rfl, hm⟩ := hrel
    have HM := Lib.hid hm
    clear hm
    by_cases hlt : j < cl.length
    · obtain ⟨b2, o2, hA, hbl2, hc2⟩ := (show Sl cI w (.slice (some ⟨b, o, none⟩) (li cl).length c) (li cl) by rw [HL.out]; exact HS.out).atI (k := j) (by rw [li_length]; exact hlt)
      injection hA with hA
      injection hA with hA hA2
      subst hA; subst hA2
      rw [li_get] at hc2
      have HE : Hid (mx cl (j + 1) = max q (cl.getD j 0) + 1) := Lib.hid (by rw [mx, HM.out]; omega)
      have hk := HB.out j
      generalize cl.getD j 0 = y at *
      rcases Nat.le_total q y with hq | hq
      all_goals
        go_wp2

        go_round
        case rel => exact ⟨j + 1, max q y, by omega, by omega, by go_num, by first | (rw [Nat.max_eq_right hq]; done) | (rw [Nat.max_eq_left hq]; done) | go_num, HE.out⟩
        case measure => simp [intOf]; omega
    · obtain rfl : j = cl.length := by omega
      go_wp2
      go_ret
      exact ⟨by rw [HM.out]; rfl, rfl⟩
theorem impl_classCountM (v : Value) (cl : List Nat) (w : World) (h : Sl cI w v (li cl)) (hl : cl.length ≤ 1048576) (hb : ∀ i, cl.getD i 0 < 256) :
    Calls Tryz.prog 37 #[v] w fun e w' => e = .returned (.int .i64 (mx cl cl.length : Nat)) ∧ w = w' := by
  obtain ⟨A, c, rfl⟩ := h.opn
  have HL := Lib.hid (li_length cl)
  rcases Nat.eq_zero_or_pos cl.length with h0 | h0
  · have HE : Hid (mx cl cl.length = 0) := Lib.hid (by rw [h0]; rfl)
    have hz : (li cl).length = 0 := by rw [li_length, h0]
    rw [hz]
    clear h0 HL h hz
    go_enter Tryz.func37, Tryz.ntmps37
    go_wp2
    go_ret
    exact ⟨by rw [HE.out]; rfl, rfl⟩
  · have HC := Lib.hid (slices_MaxM _ cl w h h0 hl hb)
    have HE : Hid (∃ q : Nat, mx cl cl.length = q + 1 ∧ q < 256) := Lib.hid (by
      have h1 := mx_gt cl (show 0 < cl.length from h0)
      have h2 := mx_le cl 256 cl.length (fun i _ => hb i)
      exact ⟨mx cl cl.length - 1, by omega, by omega⟩)
    rw [HL.out] at HC ⊢
    obtain ⟨q, hq, hq2⟩ := HE.out
    have HQ := Lib.hid hq
    rw [show mx cl cl.length - 1 = q by omega] at HC
    clear hq HE h hb
    have hne : ((cl.length : Int) == 0) = false := by rw [beq_eq_false_iff_ne]; omega
    go_enter Tryz.func37, Tryz.ntmps37
    go_wp2_with fail
    refine HC.out.mono ?_
    rintro e w1 ⟨rfl, rfl⟩
    go_wp2
    go_ret
    exact ⟨by rw [HQ.out]; first | rfl | (congr 1), rfl⟩
theorem slices_Index_int64M (v : Value) (xs : List Int) (x : Int) (k : Nat) (w : World) (h : Sl cI w v xs) (hl : xs.length ≤ 1048576) (hk : k < xs.length) (h1 : xs[k]? = some x) (h2 : ∀ j, j < k → ¬ xs[j]? = some x) :
    Calls Tryz.prog 38 #[v, .int .i64 x] w fun e w' => e = .returned (.int .i64 (k : Nat)) ∧ w = w' := by
  obtain ⟨A, c, rfl⟩ := h.opn
  have H1 := Lib.hid h1
  have H2 := Lib.hid h2
  clear h1 h2
  go_enter Tryz.func38, Tryz.ntmps38
  go_wp2
  go_loop [8] (fun i => ∃ j : Nat, j ≤ k ∧ i = .int .i64 j) (fun i => xs.length - (intOf i).toNat)
  case atStart => exact ⟨0, Nat.zero_le _, rfl⟩
  case round =>
    obtain ⟨j, hj, rfl⟩ := hrel
    have hlt : j < xs.length := by omega
    obtain ⟨b, o, rfl, hbl, hc0⟩ := h.atI hlt
    by_cases he : xs[j] = x
    · have hjk : j = k := by
        rcases Nat.lt_or_ge j k with h' | h'
        · exact absurd (by rw [List.getElem?_eq_getElem hlt, he]) (H2.out j h')
        · omega
      subst hjk
      rw [he] at hc0
      go_wp2
      go_ret
      exact ⟨rfl, rfl⟩
    · have hjk : j < k := by
        rcases Nat.lt_or_ge j k with h' | h'
        · exact h'
        · obtain rfl : j = k := by omega
          have := H1.out
          rw [List.getElem?_eq_getElem hlt] at this
          exact absurd (Option.some.inj this) he
      have hne : (x == xs[j]) = false := by rw [beq_eq_false_iff_ne]; exact fun e => he e.symm
      generalize xs[j] = y at *
      clear he
      go_wp2
      go_round
      case rel => exact ⟨j + 1, by omega, by go_num⟩
      case measure => simp [intOf]; omega
theorem impl_tables (a o i : Value) (b t : Int) (A O I : List (List Int)) (w : World) (h : Hy w a o i A O I) :
    Calls Tryz.prog 77 #[.agg #[a, o, i, .int .i64 b, .int .i64 t]] w fun e w' => e = .returned (.agg #[a, o, i]) ∧ Below w.heap.size w w' := by
  obtain ⟨va, ca, rfl⟩ := h.a.opn
  obtain ⟨vo, co, rfl⟩ := h.o.opn
  obtain ⟨vi, ci, rfl⟩ := h.i.opn
  generalize A.length = nA at *
  generalize O.length = nO at *
  generalize I.length = nI at *
  have hbx := below_alloc' w (.cells #[.slice va nA ca, .slice vo nO co, .slice vi nI ci, .int .i64 b, .int .i64 t] 26)
  have hk0 := Blk.new w 26 #[.slice va nA ca, .slice vo nO co, .slice vi nI ci, .int .i64 b, .int .i64 t]
  obtain ⟨W, hW⟩ : ∃ W, (w.alloc (.cells #[.slice va nA ca, .slice vo nO co, .slice vi nI ci, .int .i64 b, .int .i64 t] 26)).alloc (.cells #[.slice none 0 0, .slice none 0 0, .slice none 0 0] 91) = W := ⟨_, rfl⟩
  have hb2 := below_alloc' (w.alloc (.cells #[.slice va nA ca, .slice vo nO co, .slice vi nI ci, .int .i64 b, .int .i64 t] 26)) (.cells #[.slice none 0 0, .slice none 0 0, .slice none 0 0] 91)
  rw [hW] at hb2
  have BW := Lib.hid (bthen hbx hb2)
  have HK := Lib.hid (hk0.below hb2 hk0.lt)
  have HR : Hid (Blk W (w.heap.size + 1) 91 #[.slice none 0 0, .slice none 0 0, .slice none 0 0]) := Lib.hid (by rw [← hW]; exact Blk.new' _ _ _ (by simp))
  clear hbx hk0 h
  go_enter Tryz.func77, Tryz.ntmps77
  go_upto_region 1 with fail
  try rw [hW]
  clear hW hb2
  have k0 := HK.out.cell
  have l0 := HK.out.lt
  have kr := HR.out.cell
  have fr := HR.out.frozen
  have lr := HR.out.lt
  go_wp2
  refine bodyPost_ret (v := .agg #[.slice va nA ca, .slice vo nO co, .slice vi nI ci]) (by simp [results, Tryz.results77, go_sem, kr, fr, lr]) rfl ⟨rfl, ?_⟩
  exact (((BW.out.setCell (p := ⟨w.heap.size + 1, 0, none⟩) (Nat.le_succ _) _).setCell (p := ⟨w.heap.size + 1, 1, none⟩) (Nat.le_succ _) _).setCell (p := ⟨w.heap.size + 1, 2, none⟩) (Nat.le_succ _) _)
set_option maxRecDepth 100000 in
theorem run_ix3_0 (a o i : Value) (w : World) : (Instr.index 91 (.agg #[a, o, i]) (.int .i64 0)).run Tryz.prog w = .ok a w := rfl
set_option maxRecDepth 100000 in
theorem run_ix3_1 (a o i : Value) (w : World) : (Instr.index 91 (.agg #[a, o, i]) (.int .i64 1)).run Tryz.prog w = .ok o w := rfl
set_option maxRecDepth 100000 in
theorem run_ix3_2 (a o i : Value) (w : World) : (Instr.index 91 (.agg #[a, o, i]) (.int .i64 2)).run Tryz.prog w = .ok i w := rfl
set_option maxHeartbeats 4000000 in
set_option maxRecDepth 100000 in
theorem impl_onClasses (a o i u v : Value) (A O I : List (List Nat)) (b t n : Nat) (fs cl : List Nat) (w : World) (h : Hy w a o i (lil A) (lil O) (lil I)) (tA : TabN n A) (tO : TabN n O) (tI : TabN n I) (hn : n ≤ 30) (hb : b < n) (ht : t < n)
    (hu : Sl cI w u (li fs)) (hv : Sl cI w v (li cl)) (hcl : cl.length = n) (hfs : ∀ i, i < fs.length → fs.getD i 0 < n) (hfl : fs.length ≤ 30) :
    Calls Tryz.prog 39 #[.agg #[a, o, i, .int .i64 (b : Int), .int .i64 (t : Int)], u, v] w fun e w' => ∃ a' o' i' : Value, ∃ H1 H2 : Nat, e = .returned (.agg #[a', o', i', .int .i64 (cl.getD b 0 : Nat), .int .i64 (cl.getD t 0 : Nat)]) ∧
      w.heap.size ≤ H1 ∧ H1 ≤ H2 ∧ H2 ≤ w'.heap.size ∧ ObS w.heap.size H1 w' a' (tabI (qe A fs cl) fs.length fs.length) ∧ ObS H1 H2 w' o' (tabI (qe O fs cl) fs.length fs.length) ∧ ObS H2 w'.heap.size w' i' (tabI (qe I fs cl) fs.length fs.length) ∧ Below w.heap.size w w' := by
  obtain ⟨va, ca, rfl⟩ := h.a.opn
  obtain ⟨vo, co, rfl⟩ := h.o.opn
  obtain ⟨vi, ci, rfl⟩ := h.i.opn
  obtain ⟨vu, cu, rfl⟩ := hu.opn
  obtain ⟨vv, cv, rfl⟩ := hv.opn
  have LA := Lib.hid (show (lil A).length = n by rw [lil_length, tA.l])
  have LO := Lib.hid (show (lil O).length = n by rw [lil_length, tO.l])
  have LI := Lib.hid (show (lil I).length = n by rw [lil_length, tI.l])
  have LU := Lib.hid (li_length fs)
  have LV := Lib.hid (show (li cl).length = n by rw [li_length, hcl])
  have TB := Lib.hid (fun W (hW : Below w.heap.size w W) => impl_tables _ _ _ (b : Int) (t : Int) (lil A) (lil O) (lil I) W (h.below hW))
  have HA := Lib.hid (fun W (hW : Below w.heap.size w W) => h.a.below hW)
  have HO := Lib.hid (fun W (hW : Below w.heap.size w W) => h.o.below hW)
  have HI := Lib.hid (fun W (hW : Below w.heap.size w W) => h.i.below hW)
  have HU := Lib.hid (fun W (hW : Below w.heap.size w W) => hu.below hW)
  have HV := Lib.hid (fun W (hW : Below w.heap.size w W) => hv.below hW)
  rw [LA.out, LO.out, LI.out] at TB
  rw [LA.out] at HA
  rw [LO.out] at HO
  rw [LI.out] at HI
  rw [LU.out] at HU
  rw [LV.out] at HV
  rw [LA.out, LO.out, LI.out, LU.out, LV.out]
  have TA := Lib.hid tA
  have TO := Lib.hid tO
  have TI := Lib.hid tI
  have FS := Lib.hid hfs
  have hbx := below_alloc' w (.cells #[.slice va n ca, .slice vo n co, .slice vi n ci, .int .i64 (b : Int), .int .i64 (t : Int)] 26)
  have hk0 := Blk.new w 26 #[.slice va n ca, .slice vo n co, .slice vi n ci, .int .i64 (b : Int), .int .i64 (t : Int)]
  obtain ⟨W, hW⟩ : ∃ W, (w.alloc (.cells #[.slice va n ca, .slice vo n co, .slice vi n ci, .int .i64 (b : Int), .int .i64 (t : Int)] 26)).alloc (.cells #[.slice none 0 0, .slice none 0 0, .slice none 0 0, .int .i64 0, .int .i64 0] 26) = W := ⟨_, rfl⟩
  have hb2 := below_alloc' (w.alloc (.cells #[.slice va n ca, .slice vo n co, .slice vi n ci, .int .i64 (b : Int), .int .i64 (t : Int)] 26)) (.cells #[.slice none 0 0, .slice none 0 0, .slice none 0 0, .int .i64 0, .int .i64 0] 26)
  rw [hW] at hb2
  have BW := Lib.hid (bthen hbx hb2)
  have HK := Lib.hid (hk0.below hb2 hk0.lt)
  have HR : Hid (Blk W (w.heap.size + 1) 26 #[.slice none 0 0, .slice none 0 0, .slice none 0 0, .int .i64 0, .int .i64 0]) := Lib.hid (by rw [← hW]; exact Blk.new' _ _ _ (by simp))
  have HWS : Hid (W.heap.size = w.heap.size + 2) := Lib.hid (by rw [← hW]; simp)
  clear h hu hv hfs hbx hk0 tA tO tI
  go_enter Tryz.func39, Tryz.ntmps39
  go_upto_region 1 with fail
  try rw [hW]
  clear hW hb2
  go_upto_region 2 with fail
  have hbm := below_alloc' W (.cells #[.slice none 0 0, .slice none 0 0, .slice none 0 0] 91)
  have G1 := Lib.hid (Blk.new W 91 #[.slice none 0 0, .slice none 0 0, .slice none 0 0])
  have B1 := Lib.hid hbm
  have K1 := Lib.hid (HK.out.below hbm HK.out.lt)
  have hsz := size_alloc' W (.cells #[.slice none 0 0, .slice none 0 0, .slice none 0 0] 91)
  have Z1 := Lib.hid hsz
  clear hbm hsz
  generalize World.alloc W _ = w1 at *
  have k0 := K1.out.cell
  have l0 := K1.out.lt
  go_wp2_with fail
  refine (TB.out _ (bthen BW.out B1.out)).mono ?_
  rintro e w2 ⟨rfl, hb⟩
  have B2 := Lib.hid (bthen B1.out hb)
  have G2 := Lib.hid (G1.out.below hb G1.out.lt)
  have Z2 : Hid (W.heap.size + 1 ≤ w2.heap.size) := Lib.hid (by have := hb.size; have := Z1.out; omega)
  clear k0 l0 hb B1 G1 Z1 K1
  go_wp2
  go_loopw [17] (fun i wr => Below W.heap.size W wr ∧ (W.heap.size + 1) ≤ wr.heap.size ∧ ((i = .int .i64 0 ∧ Blk wr W.heap.size 91 #[.slice none 0 0, .slice none 0 0, .slice none 0 0]) ∨ (i = .int .i64 1 ∧ ∃ m0 : Value, Blk wr W.heap.size 91 #[m0, .slice none 0 0, .slice none 0 0] ∧ ObS (W.heap.size + 1) wr.heap.size wr m0 (tabI (qe A fs cl) fs.length fs.length)) ∨ (i = .int .i64 2 ∧ ∃ m0 m1 : Value, ∃ H1 : Nat, Blk wr W.heap.size 91 #[m0, m1, .slice none 0 0] ∧ (W.heap.size + 1) ≤ H1 ∧ H1 ≤ wr.heap.size ∧ ObS (W.heap.size + 1) H1 wr m0 (tabI (qe A fs cl) fs.length fs.length) ∧ ObS H1 wr.heap.size wr m1 (tabI (qe O fs cl) fs.length fs.length)) ∨ (i = .int .i64 3 ∧ ∃ m0 m1 m2 : Value, ∃ H1 H2 : Nat, Blk wr W.heap.size 91 #[m0, m1, m2] ∧ (W.heap.size + 1) ≤ H1 ∧ H1 ≤ H2 ∧ H2 ≤ wr.heap.size ∧ ObS (W.heap.size + 1) H1 wr m0 (tabI (qe A fs cl) fs.length fs.length) ∧ ObS H1 H2 wr m1 (tabI (qe O fs cl) fs.length fs.length) ∧ ObS H2 wr.heap.size wr m2 (tabI (qe I fs cl) fs.length fs.length)))) (fun i _ => 3 - (intOf i).toNat)
  case atStart => exact ⟨B2.out, Z2.out, .inl ⟨rfl, G2.out⟩⟩
  case round =>
    obtain ⟨hb, hz, hrel⟩ := hrel
    obtain ⟨w3, hw3⟩ : ∃ W, W = wr := ⟨_, rfl⟩
    subst hw3
    have B3 := Lib.hid hb
    have BW3 := Lib.hid (BW.out.trans (hb.mono BW.out.size))
    have Z3 := Lib.hid hz
    clear hb hz B2 Z2 G2
    rcases hrel with ⟨rfl, GQ⟩ | ⟨rfl, m0, GQ, q0⟩ | ⟨rfl, m0, m1, H1, GQ, h1, h2, q0, q1⟩ | ⟨rfl, m0, m1, m2, H1, H2, GQ, h1, h2, h3, q0, q1, q2⟩
    · have G3 := Lib.hid GQ
      clear GQ
      have hz3 := Z3.out
      have hix := run_ix3_0 (.slice va n ca) (.slice vo n co) (.slice vi n ci)
      go_wp2
      clear hix
      go_loopw [23] (fun i wr => ∃ x : Nat, x ≤ fs.length ∧ i = .int .i64 x ∧ (∃ m : Value, Blk wr W.heap.size 91 #[m, .slice none 0 0, .slice none 0 0] ∧ ObS w3.heap.size wr.heap.size wr m (tabI (qe A fs cl) fs.length x)) ∧ Below W.heap.size W wr ∧ w3.heap.size ≤ wr.heap.size) (fun i _ => fs.length - (intOf i).toNat)
      case atStart => exact ⟨0, Nat.zero_le _, rfl, ⟨_, G3.out, ObS.nil _ _ _⟩, B3.out, Nat.le_refl _⟩
      case round =>
        obtain ⟨x, hx, rfl, ⟨m, GQ, qm⟩, hb, hz⟩ := hrel
        obtain ⟨w4, hw4⟩ : ∃ W, W = wr := ⟨_, rfl⟩
        subst hw4
        have G4 := Lib.hid GQ
        have M4 := Lib.hid qm
        have B4 := Lib.hid hb
        have BW4 := Lib.hid (BW.out.trans (hb.mono BW.out.size))
        clear GQ qm hb G3
        have hm4 := G4.out.lt
        by_cases hlt : x < fs.length
        · obtain ⟨bu, ou, eu, hbu, hux⟩ := (HU.out _ BW4.out).atI (k := x) (by rw [LU.out]; exact hlt)
          subst eu
          rw [li_get] at hux
          obtain ⟨lx, hlx⟩ : ∃ z, fs.getD x 0 = z := ⟨_, rfl⟩
          rw [hlx] at hux
          have HLX := Lib.hid hlx
          clear hlx
          go_wp2
          go_loopw [12, 29] (fun p i wr => ∃ y : Nat, y ≤ fs.length ∧ i = .int .i64 y ∧ Ow cI 2 w4.heap.size wr p (rowI (qe A fs cl) x y) ∧ Below w4.heap.size w4 wr) (fun _ i _ => fs.length - (intOf i).toNat)
          case atStart => exact ⟨0, Nat.zero_le _, rfl, Ow.nil _ _, Below.refl _ _⟩
          case round =>
            obtain ⟨y, hy, rfl, PP, hb⟩ := hrel
            obtain ⟨w5, hw5⟩ : ∃ W, W = wr := ⟨_, rfl⟩
            subst hw5
            obtain ⟨sp, cp, rfl⟩ := PP.opn
            rw [rowI_length] at PP ⊢
            replace PP := Lib.hid PP
            have C5 := Lib.hid hb
            have z5 := hb.size
            clear hb
            by_cases hlt2 : y < fs.length
            · obtain ⟨bu', ou', eu', -, huy⟩ := (HU.out _ BW4.out).atI (k := y) (by rw [LU.out]; exact hlt2)
              injection eu' with eu'
              injection eu' with f1 f2
              subst f1; subst f2
              rw [li_get] at huy
              have fx := FS.out x hlt
              rw [HLX.out] at fx
              have fy := FS.out y hlt2
              obtain ⟨b2, o2, d2, q2, j2, e2, hb2, hc2, hd2, he2⟩ := ent_at (HA.out _ BW4.out) TA.out fx fy
              subst e2
              have hen := TA.out.ent_lt fx fy
              obtain ⟨bw, ow, ew, hv2, hcl2⟩ := (HV.out _ BW4.out).atI (k := ent A lx (fs.getD y 0)) (by rw [LV.out]; exact hen)
              subst ew
              rw [li_get] at hcl2
              have RR := Lib.hid (show rowI (qe A fs cl) x (y + 1) = rowI (qe A fs cl) x y ++ [qe A fs cl x y] from rowI_succ _ _ _)
              have RL := Lib.hid (rowI_length (qe A fs cl) x y)
              have RQ : Hid (qe A fs cl x y = ((cl.getD (ent A lx (fs.getD y 0)) 0 : Nat) : Int)) := Lib.hid (by unfold qe; rw [HLX.out])
              rw [RQ.out] at RR
              clear RQ
              obtain ⟨z, hz9⟩ : ∃ z, cl.getD (ent A lx (fs.getD y 0)) 0 = z := ⟨_, rfl⟩
              rw [hz9] at hcl2 RR
              clear hz9
              generalize ent A lx (fs.getD y 0) = ne at *
              have u1 := (C5.out.cell (p := ⟨bu, ou + x, none⟩) hbu).trans hux
              have u2 := (C5.out.cell (p := ⟨bu, ou + y, none⟩) hbu).trans huy
              generalize fs.getD y 0 = ly at *
              have u3 := (C5.out.cell (p := ⟨b2, o2 + lx, none⟩) hb2).trans hc2
              have u4 := (C5.out.cell (p := ⟨d2, q2 + ly, none⟩) hd2).trans he2
              have u5 := (C5.out.cell (p := ⟨bw, ow + ne, none⟩) hv2).trans hcl2
              go_wp2_with (at_builtin; refine stopHere ?_)
              refine goHere ?_
              refine ap_one (K := cI) _ ty_int64 rfl _ _ rfl (B := w4.heap.size) (v := .slice sp y cp) (xs := rowI (qe A fs cl) x y) rfl PP.out (z : Int) rfl rfl (by have := RL.out; omega) z5 ?_
              intro v1 w6 ho1 hg1 hb1 hat1
              rw [← RR.out] at ho1
              have O6 := Lib.hid ho1
              have C6 := Lib.hid (C5.out.trans hb1)
              clear ho1 hg1 hb1 hat1
              go_wp2
              exact ⟨⟨y + 1, by omega, by go_num, O6.out, C6.out⟩, by simp [intOf]; omega⟩
            · obtain rfl : y = fs.length := by omega
              have M5 := Lib.hid (M4.out.below C5.out)
              have G5 := Lib.hid (G4.out.below C5.out hm4)
              have B5 := Lib.hid (B4.out.trans (C5.out.mono (show W.heap.size ≤ w4.heap.size by omega)))
              have PL := Lib.hid (fun k e => (PP.out.block k e).1)
              obtain ⟨hs, q1, q2, q3, q4⟩ := M5.out.push z5 (PP.out.mono (show w3.heap.size ≤ w4.heap.size by omega)) PL.out
              have hl : hs.length = x := by rw [q2, tabI_length]
              have hTI := tabI_length (qe A fs cl) fs.length x
              obtain ⟨Ai, cj, hvi⟩ := M5.out.opn
              rw [hTI] at hvi
              subst hvi
              have kg := G5.out.cell
              have fg := G5.out.frozen
              have lg := G5.out.lt
              have Q1 := Lib.hid q1
              have Q3 := Lib.hid q3
              have Q4 := Lib.hid q4
              have HLS := Lib.hid hl
              clear q1 q2 q3 q4 hTI hl
              go_wp2_with (at_builtin; refine stopHere ?_)
              refine goHere ?_
              refine ap_one (K := cH) _ ty_intss rfl _ _ rfl (B := w3.heap.size) (xs := hs) rfl Q1.out (⟨sp, fs.length, cp⟩ : Hd) rfl rfl (by have := HLS.out; omega) (by omega) ?_
              intro v1 w6 ho hg hbB hat
              have hgg := grown_alloc _ hg
              have TT := Q4.out _ _ ho hgg (by
                rcases hat with e | e
                · exact .inl e
                · exact .inr ⟨_, Nat.le_succ _, e⟩)
              rw [← tabI_succ] at TT
              have TT1 := Lib.hid TT
              have G6 := Lib.hid (G5.out.grown hgg (fun e => by have h5 : w3.heap.size ≤ W.heap.size := (Q3.out _ e.symm).1; omega))
              have B6 := Lib.hid (B5.out.trans (hbB.mono (show W.heap.size ≤ w3.heap.size by omega)))
              have z6 := hbB.size
              obtain ⟨W1, d1, hv1⟩ := ho.opn
              rw [List.length_append, List.length_singleton, HLS.out] at hv1
              subst hv1
              clear ho hg hbB hat hgg TT kg fg lg
              have U1 := Lib.hid (ObS.setBelow TT1.out (p := ⟨W.heap.size, 0, none⟩) (show W.heap.size < w3.heap.size by omega) (.slice W1 (x + 1) d1))
              have US : Hid ((World.setCell w6 ⟨W.heap.size, 0, none⟩ (.slice W1 (x + 1) d1)).heap.size = w6.heap.size) := Lib.hid (by simp [World.setCell])
              rw [← US.out] at U1
              have U2 := Lib.hid (G6.out.set_ 0 (.slice W1 (x + 1) d1))
              have U3 := Lib.hid (B6.out.setCell (p := ⟨W.heap.size, 0, none⟩) (Nat.le_refl _) (.slice W1 (x + 1) d1))
              have z7 : w3.heap.size ≤ (World.setCell w6 ⟨W.heap.size, 0, none⟩ (.slice W1 (x + 1) d1)).heap.size := by rw [US.out]; omega
              have kg := G6.out.cell
              have fg := G6.out.frozen
              have lg := G6.out.lt
              clear G6 B6 TT1
              have Z7 := Lib.hid z7
              clear z7
              go_wp2
              exact ⟨⟨x + 1, by omega, by go_num, ⟨_, by have := U2.out; simpa using this, U1.out⟩, U3.out, Z7.out⟩, by simp [intOf]; omega⟩
        · obtain rfl : x = fs.length := by omega
          go_wp2
          exact ⟨⟨B4.out, by omega, .inr (.inl ⟨rfl, _, G4.out, M4.out.wide (by omega) (Nat.le_refl _)⟩)⟩, by simp [intOf]⟩
    · have G3 := Lib.hid GQ
      have E0 := Lib.hid q0
      clear GQ q0
      have hz3 := Z3.out
      have hix := run_ix3_1 (.slice va n ca) (.slice vo n co) (.slice vi n ci)
      go_wp2
      clear hix
      go_loopw [23] (fun i wr => ∃ x : Nat, x ≤ fs.length ∧ i = .int .i64 x ∧ (∃ m : Value, Blk wr W.heap.size 91 #[m0, m, .slice none 0 0] ∧ ObS w3.heap.size wr.heap.size wr m (tabI (qe O fs cl) fs.length x)) ∧ Below W.heap.size W wr ∧ w3.heap.size ≤ wr.heap.size ∧ ObS (W.heap.size + 1) w3.heap.size wr m0 (tabI (qe A fs cl) fs.length fs.length)) (fun i _ => fs.length - (intOf i).toNat)
      case atStart => exact ⟨0, Nat.zero_le _, rfl, ⟨_, G3.out, ObS.nil _ _ _⟩, B3.out, Nat.le_refl _, E0.out⟩
      case round =>
        obtain ⟨x, hx, rfl, ⟨m, GQ, qm⟩, hb, hz, fE0⟩ := hrel
        obtain ⟨w4, hw4⟩ : ∃ W, W = wr := ⟨_, rfl⟩
        subst hw4
        have G4 := Lib.hid GQ
        have M4 := Lib.hid qm
        have B4 := Lib.hid hb
        have BW4 := Lib.hid (BW.out.trans (hb.mono BW.out.size))
        have E0x := Lib.hid fE0
        clear GQ qm hb G3 fE0
        have hm4 := G4.out.lt
        by_cases hlt : x < fs.length
        · obtain ⟨bu, ou, eu, hbu, hux⟩ := (HU.out _ BW4.out).atI (k := x) (by rw [LU.out]; exact hlt)
          subst eu
          rw [li_get] at hux
          obtain ⟨lx, hlx⟩ : ∃ z, fs.getD x 0 = z := ⟨_, rfl⟩
          rw [hlx] at hux
          have HLX := Lib.hid hlx
          clear hlx
          go_wp2
          go_loopw [12, 29] (fun p i wr => ∃ y : Nat, y ≤ fs.length ∧ i = .int .i64 y ∧ Ow cI 2 w4.heap.size wr p (rowI (qe O fs cl) x y) ∧ Below w4.heap.size w4 wr) (fun _ i _ => fs.length - (intOf i).toNat)
          case atStart => exact ⟨0, Nat.zero_le _, rfl, Ow.nil _ _, Below.refl _ _⟩
          case round =>
            obtain ⟨y, hy, rfl, PP, hb⟩ := hrel
            obtain ⟨w5, hw5⟩ : ∃ W, W = wr := ⟨_, rfl⟩
            subst hw5
            obtain ⟨sp, cp, rfl⟩ := PP.opn
            rw [rowI_length] at PP ⊢
            replace PP := Lib.hid PP
            have C5 := Lib.hid hb
            have z5 := hb.size
            clear hb
            by_cases hlt2 : y < fs.length
            · obtain ⟨bu', ou', eu', -, huy⟩ := (HU.out _ BW4.out).atI (k := y) (by rw [LU.out]; exact hlt2)
              injection eu' with eu'
              injection eu' with f1 f2
              subst f1; subst f2
              rw [li_get] at huy
              have fx := FS.out x hlt
              rw [HLX.out] at fx
              have fy := FS.out y hlt2
              obtain ⟨b2, o2, d2, q2, j2, e2, hb2, hc2, hd2, he2⟩ := ent_at (HO.out _ BW4.out) TO.out fx fy
              subst e2
              have hen := TO.out.ent_lt fx fy
              obtain ⟨bw, ow, ew, hv2, hcl2⟩ := (HV.out _ BW4.out).atI (k := ent O lx (fs.getD y 0)) (by rw [LV.out]; exact hen)
              subst ew
              rw [li_get] at hcl2
              have RR := Lib.hid (show rowI (qe O fs cl) x (y + 1) = rowI (qe O fs cl) x y ++ [qe O fs cl x y] from rowI_succ _ _ _)
              have RL := Lib.hid (rowI_length (qe O fs cl) x y)
              have RQ : Hid (qe O fs cl x y = ((cl.getD (ent O lx (fs.getD y 0)) 0 : Nat) : Int)) := Lib.hid (by unfold qe; rw [HLX.out])
              rw [RQ.out] at RR
              clear RQ
              obtain ⟨z, hz9⟩ : ∃ z, cl.getD (ent O lx (fs.getD y 0)) 0 = z := ⟨_, rfl⟩
              rw [hz9] at hcl2 RR
              clear hz9
              generalize ent O lx (fs.getD y 0) = ne at *
              have u1 := (C5.out.cell (p := ⟨bu, ou + x, none⟩) hbu).trans hux
              have u2 := (C5.out.cell (p := ⟨bu, ou + y, none⟩) hbu).trans huy
              generalize fs.getD y 0 = ly at *
              have u3 := (C5.out.cell (p := ⟨b2, o2 + lx, none⟩) hb2).trans hc2
              have u4 := (C5.out.cell (p := ⟨d2, q2 + ly, none⟩) hd2).trans he2
              have u5 := (C5.out.cell (p := ⟨bw, ow + ne, none⟩) hv2).trans hcl2
              go_wp2_with (at_builtin; refine stopHere ?_)
              refine goHere ?_
              refine ap_one (K := cI) _ ty_int64 rfl _ _ rfl (B := w4.heap.size) (v := .slice sp y cp) (xs := rowI (qe O fs cl) x y) rfl PP.out (z : Int) rfl rfl (by have := RL.out; omega) z5 ?_
              intro v1 w6 ho1 hg1 hb1 hat1
              rw [← RR.out] at ho1
              have O6 := Lib.hid ho1
              have C6 := Lib.hid (C5.out.trans hb1)
              clear ho1 hg1 hb1 hat1
              go_wp2
              exact ⟨⟨y + 1, by omega, by go_num, O6.out, C6.out⟩, by simp [intOf]; omega⟩
            · obtain rfl : y = fs.length := by omega
              have M5 := Lib.hid (M4.out.below C5.out)
              have G5 := Lib.hid (G4.out.below C5.out hm4)
              have B5 := Lib.hid (B4.out.trans (C5.out.mono (show W.heap.size ≤ w4.heap.size by omega)))
              have E0y := Lib.hid (E0x.out.below C5.out)
              have PL := Lib.hid (fun k e => (PP.out.block k e).1)
              obtain ⟨hs, q1, q2, q3, q4⟩ := M5.out.push z5 (PP.out.mono (show w3.heap.size ≤ w4.heap.size by omega)) PL.out
              have hl : hs.length = x := by rw [q2, tabI_length]
              have hTI := tabI_length (qe O fs cl) fs.length x
              obtain ⟨Ai, cj, hvi⟩ := M5.out.opn
              rw [hTI] at hvi
              subst hvi
              have kg := G5.out.cell
              have fg := G5.out.frozen
              have lg := G5.out.lt
              have Q1 := Lib.hid q1
              have Q3 := Lib.hid q3
              have Q4 := Lib.hid q4
              have HLS := Lib.hid hl
              clear q1 q2 q3 q4 hTI hl
              go_wp2_with (at_builtin; refine stopHere ?_)
              refine goHere ?_
              refine ap_one (K := cH) _ ty_intss rfl _ _ rfl (B := w3.heap.size) (xs := hs) rfl Q1.out (⟨sp, fs.length, cp⟩ : Hd) rfl rfl (by have := HLS.out; omega) (by omega) ?_
              intro v1 w6 ho hg hbB hat
              have hgg := grown_alloc _ hg
              have TT := Q4.out _ _ ho hgg (by
                rcases hat with e | e
                · exact .inl e
                · exact .inr ⟨_, Nat.le_succ _, e⟩)
              rw [← tabI_succ] at TT
              have TT1 := Lib.hid TT
              have G6 := Lib.hid (G5.out.grown hgg (fun e => by have h5 : w3.heap.size ≤ W.heap.size := (Q3.out _ e.symm).1; omega))
              have E0z := Lib.hid (E0y.out.grown hgg (fun k e => by have h5 := (Q3.out k e).1; omega))
              have B6 := Lib.hid (B5.out.trans (hbB.mono (show W.heap.size ≤ w3.heap.size by omega)))
              have z6 := hbB.size
              obtain ⟨W1, d1, hv1⟩ := ho.opn
              rw [List.length_append, List.length_singleton, HLS.out] at hv1
              subst hv1
              clear ho hg hbB hat hgg TT kg fg lg
              have U1 := Lib.hid (ObS.setBelow TT1.out (p := ⟨W.heap.size, 1, none⟩) (show W.heap.size < w3.heap.size by omega) (.slice W1 (x + 1) d1))
              have US : Hid ((World.setCell w6 ⟨W.heap.size, 1, none⟩ (.slice W1 (x + 1) d1)).heap.size = w6.heap.size) := Lib.hid (by simp [World.setCell])
              rw [← US.out] at U1
              have U2 := Lib.hid (G6.out.set_ 1 (.slice W1 (x + 1) d1))
              have U3 := Lib.hid (B6.out.setCell (p := ⟨W.heap.size, 1, none⟩) (Nat.le_refl _) (.slice W1 (x + 1) d1))
              have E0u := Lib.hid (ObS.setBelow E0z.out (p := ⟨W.heap.size, 1, none⟩) (Nat.lt_succ_self _) (.slice W1 (x + 1) d1))
              have z7 : w3.heap.size ≤ (World.setCell w6 ⟨W.heap.size, 1, none⟩ (.slice W1 (x + 1) d1)).heap.size := by rw [US.out]; omega
              have kg := G6.out.cell
              have fg := G6.out.frozen
              have lg := G6.out.lt
              clear G6 B6 TT1
              have Z7 := Lib.hid z7
              clear z7
              go_wp2
              exact ⟨⟨x + 1, by omega, by go_num, ⟨_, by have := U2.out; simpa using this, U1.out⟩, U3.out, Z7.out, E0u.out⟩, by simp [intOf]; omega⟩
        · obtain rfl : x = fs.length := by omega
          go_wp2
          exact ⟨⟨B4.out, by omega, .inr (.inr (.inl ⟨rfl, _, _, w3.heap.size, G4.out, by omega, by omega, E0x.out, M4.out⟩))⟩, by simp [intOf]⟩
    · have G3 := Lib.hid GQ
      have E0 := Lib.hid q0
      have E1 := Lib.hid q1
      have HH1 := Lib.hid (And.intro h1 h2)
      clear h1 h2
      clear GQ q0 q1
      have hz3 := Z3.out
      have hix := run_ix3_2 (.slice va n ca) (.slice vo n co) (.slice vi n ci)
      go_wp2
      clear hix
      go_loopw [23] (fun i wr => ∃ x : Nat, x ≤ fs.length ∧ i = .int .i64 x ∧ (∃ m : Value, Blk wr W.heap.size 91 #[m0, m1, m] ∧ ObS w3.heap.size wr.heap.size wr m (tabI (qe I fs cl) fs.length x)) ∧ Below W.heap.size W wr ∧ w3.heap.size ≤ wr.heap.size ∧ ObS (W.heap.size + 1) H1 wr m0 (tabI (qe A fs cl) fs.length fs.length) ∧ ObS H1 w3.heap.size wr m1 (tabI (qe O fs cl) fs.length fs.length)) (fun i _ => fs.length - (intOf i).toNat)
      case atStart => exact ⟨0, Nat.zero_le _, rfl, ⟨_, G3.out, ObS.nil _ _ _⟩, B3.out, Nat.le_refl _, E0.out, E1.out⟩
      case round =>
        obtain ⟨x, hx, rfl, ⟨m, GQ, qm⟩, hb, hz, fE0, fE1⟩ := hrel
        obtain ⟨w4, hw4⟩ : ∃ W, W = wr := ⟨_, rfl⟩
        subst hw4
        have G4 := Lib.hid GQ
        have M4 := Lib.hid qm
        have B4 := Lib.hid hb
        have BW4 := Lib.hid (BW.out.trans (hb.mono BW.out.size))
        have E0x := Lib.hid fE0
        have E1x := Lib.hid fE1
        clear GQ qm hb G3 fE0 fE1
        have hm4 := G4.out.lt
        by_cases hlt : x < fs.length
        · obtain ⟨bu, ou, eu, hbu, hux⟩ := (HU.out _ BW4.out).atI (k := x) (by rw [LU.out]; exact hlt)
          subst eu
          rw [li_get] at hux
          obtain ⟨lx, hlx⟩ : ∃ z, fs.getD x 0 = z := ⟨_, rfl⟩
          rw [hlx] at hux
          have HLX := Lib.hid hlx
          clear hlx
          go_wp2
          go_loopw [12, 29] (fun p i wr => ∃ y : Nat, y ≤ fs.length ∧ i = .int .i64 y ∧ Ow cI 2 w4.heap.size wr p (rowI (qe I fs cl) x y) ∧ Below w4.heap.size w4 wr) (fun _ i _ => fs.length - (intOf i).toNat)
          case atStart => exact ⟨0, Nat.zero_le _, rfl, Ow.nil _ _, Below.refl _ _⟩
          case round =>
            obtain ⟨y, hy, rfl, PP, hb⟩ := hrel
            obtain ⟨w5, hw5⟩ : ∃ W, W = wr := ⟨_, rfl⟩
            subst hw5
            obtain ⟨sp, cp, rfl⟩ := PP.opn
            rw [rowI_length] at PP ⊢
            replace PP := Lib.hid PP
            have C5 := Lib.hid hb
            have z5 := hb.size
            clear hb
            by_cases hlt2 : y < fs.length
            · obtain ⟨bu', ou', eu', -, huy⟩ := (HU.out _ BW4.out).atI (k := y) (by rw [LU.out]; exact hlt2)
              injection eu' with eu'
              injection eu' with f1 f2
              subst f1; subst f2
              rw [li_get] at huy
              have fx := FS.out x hlt
              rw [HLX.out] at fx
              have fy := FS.out y hlt2
              obtain ⟨b2, o2, d2, q2, j2, e2, hb2, hc2, hd2, he2⟩ := ent_at (HI.out _ BW4.out) TI.out fx fy
              subst e2
              have hen := TI.out.ent_lt fx fy
              obtain ⟨bw, ow, ew, hv2, hcl2⟩ := (HV.out _ BW4.out).atI (k := ent I lx (fs.getD y 0)) (by rw [LV.out]; exact hen)
              subst ew
              rw [li_get] at hcl2
              have RR := Lib.hid (show rowI (qe I fs cl) x (y + 1) = rowI (qe I fs cl) x y ++ [qe I fs cl x y] from rowI_succ _ _ _)
              have RL := Lib.hid (rowI_length (qe I fs cl) x y)
              have RQ : Hid (qe I fs cl x y = ((cl.getD (ent I lx (fs.getD y 0)) 0 : Nat) : Int)) := Lib.hid (by unfold qe; rw [HLX.out])
              rw [RQ.out] at RR
              clear RQ
              obtain ⟨z, hz9⟩ : ∃ z, cl.getD (ent I lx (fs.getD y 0)) 0 = z := ⟨_, rfl⟩
              rw [hz9] at hcl2 RR
              clear hz9
              generalize ent I lx (fs.getD y 0) = ne at *
              have u1 := (C5.out.cell (p := ⟨bu, ou + x, none⟩) hbu).trans hux
              have u2 := (C5.out.cell (p := ⟨bu, ou + y, none⟩) hbu).trans huy
              generalize fs.getD y 0 = ly at *
              have u3 := (C5.out.cell (p := ⟨b2, o2 + lx, none⟩) hb2).trans hc2
              have u4 := (C5.out.cell (p := ⟨d2, q2 + ly, none⟩) hd2).trans he2
              have u5 := (C5.out.cell (p := ⟨bw, ow + ne, none⟩) hv2).trans hcl2
              go_wp2_with (at_builtin; refine stopHere ?_)
              refine goHere ?_
              refine ap_one (K := cI) _ ty_int64 rfl _ _ rfl (B := w4.heap.size) (v := .slice sp y cp) (xs := rowI (qe I fs cl) x y) rfl PP.out (z : Int) rfl rfl (by have := RL.out; omega) z5 ?_
              intro v1 w6 ho1 hg1 hb1 hat1
              rw [← RR.out] at ho1
              have O6 := Lib.hid ho1
              have C6 := Lib.hid (C5.out.trans hb1)
              clear ho1 hg1 hb1 hat1
              go_wp2
              exact ⟨⟨y + 1, by omega, by go_num, O6.out, C6.out⟩, by simp [intOf]; omega⟩
            · obtain rfl : y = fs.length := by omega
              have M5 := Lib.hid (M4.out.below C5.out)
              have G5 := Lib.hid (G4.out.below C5.out hm4)
              have B5 := Lib.hid (B4.out.trans (C5.out.mono (show W.heap.size ≤ w4.heap.size by omega)))
              have E0y := Lib.hid (E0x.out.below C5.out)
              have E1y := Lib.hid (E1x.out.below C5.out)
              have PL := Lib.hid (fun k e => (PP.out.block k e).1)
              obtain ⟨hs, q1, q2, q3, q4⟩ := M5.out.push z5 (PP.out.mono (show w3.heap.size ≤ w4.heap.size by omega)) PL.out
              have hl : hs.length = x := by rw [q2, tabI_length]
              have hTI := tabI_length (qe I fs cl) fs.length x
              obtain ⟨Ai, cj, hvi⟩ := M5.out.opn
              rw [hTI] at hvi
              subst hvi
              have kg := G5.out.cell
              have fg := G5.out.frozen
              have lg := G5.out.lt
              have Q1 := Lib.hid q1
              have Q3 := Lib.hid q3
              have Q4 := Lib.hid q4
              have HLS := Lib.hid hl
              clear q1 q2 q3 q4 hTI hl
              go_wp2_with (at_builtin; refine stopHere ?_)
              refine goHere ?_
              refine ap_one (K := cH) _ ty_intss rfl _ _ rfl (B := w3.heap.size) (xs := hs) rfl Q1.out (⟨sp, fs.length, cp⟩ : Hd) rfl rfl (by have := HLS.out; omega) (by omega) ?_
              intro v1 w6 ho hg hbB hat
              have hgg := grown_alloc _ hg
              have TT := Q4.out _ _ ho hgg (by
                rcases hat with e | e
                · exact .inl e
                · exact .inr ⟨_, Nat.le_succ _, e⟩)
              rw [← tabI_succ] at TT
              have TT1 := Lib.hid TT
              have G6 := Lib.hid (G5.out.grown hgg (fun e => by have h5 : w3.heap.size ≤ W.heap.size := (Q3.out _ e.symm).1; omega))
              have E0z := Lib.hid (E0y.out.grown hgg (fun k e => by have h5 := (Q3.out k e).1; have := HH1.out; omega))
              have E1z := Lib.hid (E1y.out.grown hgg (fun k e => by have h5 := (Q3.out k e).1; omega))
              have B6 := Lib.hid (B5.out.trans (hbB.mono (show W.heap.size ≤ w3.heap.size by omega)))
              have z6 := hbB.size
              obtain ⟨W1, d1, hv1⟩ := ho.opn
              rw [List.length_append, List.length_singleton, HLS.out] at hv1
              subst hv1
              clear ho hg hbB hat hgg TT kg fg lg
              have U1 := Lib.hid (ObS.setBelow TT1.out (p := ⟨W.heap.size, 2, none⟩) (show W.heap.size < w3.heap.size by omega) (.slice W1 (x + 1) d1))
              have US : Hid ((World.setCell w6 ⟨W.heap.size, 2, none⟩ (.slice W1 (x + 1) d1)).heap.size = w6.heap.size) := Lib.hid (by simp [World.setCell])
              rw [← US.out] at U1
              have U2 := Lib.hid (G6.out.set_ 2 (.slice W1 (x + 1) d1))
              have U3 := Lib.hid (B6.out.setCell (p := ⟨W.heap.size, 2, none⟩) (Nat.le_refl _) (.slice W1 (x + 1) d1))
              have E0u := Lib.hid (ObS.setBelow E0z.out (p := ⟨W.heap.size, 2, none⟩) (Nat.lt_succ_self _) (.slice W1 (x + 1) d1))
              have E1u := Lib.hid (ObS.setBelow E1z.out (p := ⟨W.heap.size, 2, none⟩) (show W.heap.size < H1 by have := HH1.out; omega) (.slice W1 (x + 1) d1))
              have z7 : w3.heap.size ≤ (World.setCell w6 ⟨W.heap.size, 2, none⟩ (.slice W1 (x + 1) d1)).heap.size := by rw [US.out]; omega
              have kg := G6.out.cell
              have fg := G6.out.frozen
              have lg := G6.out.lt
              clear G6 B6 TT1
              have Z7 := Lib.hid z7
              clear z7
              go_wp2
              exact ⟨⟨x + 1, by omega, by go_num, ⟨_, by have := U2.out; simpa using this, U1.out⟩, U3.out, Z7.out, E0u.out, E1u.out⟩, by simp [intOf]; omega⟩
        · obtain rfl : x = fs.length := by omega
          go_wp2
          exact ⟨⟨B4.out, by omega, .inr (.inr (.inr ⟨rfl, _, _, _, H1, w3.heap.size, G4.out, HH1.out.1, HH1.out.2, by omega, E0x.out, E1x.out, M4.out⟩))⟩, by simp [intOf]⟩
    · have G3 := Lib.hid GQ
      have Q0 := Lib.hid q0
      have Q1 := Lib.hid q1
      have Q2 := Lib.hid q2
      have hT := tabI_length (qe A fs cl) fs.length fs.length
      obtain ⟨xA, yA, hxA⟩ := Q0.out.opn
      rw [hT] at hxA
      subst hxA
      clear hT
      have hT := tabI_length (qe O fs cl) fs.length fs.length
      obtain ⟨xO, yO, hxO⟩ := Q1.out.opn
      rw [hT] at hxO
      subst hxO
      clear hT
      have hT := tabI_length (qe I fs cl) fs.length fs.length
      obtain ⟨xI, yI, hxI⟩ := Q2.out.opn
      rw [hT] at hxI
      subst hxI
      clear hT
      have hws := HWS.out
      have hz3 := Z3.out
      obtain ⟨bv, ov, eV, hbV, hcb⟩ := (HV.out _ BW3.out).atI (k := b) (by rw [LV.out]; exact hb)
      obtain ⟨bv', ov', eV', -, hct⟩ := (HV.out _ BW3.out).atI (k := t) (by rw [LV.out]; exact ht)
      subst eV
      injection eV' with eV'
      injection eV' with e1 e2
      subst e1; subst e2
      rw [li_get] at hcb hct
      obtain ⟨cb, hcb9⟩ : ∃ z, cl.getD b 0 = z := ⟨_, rfl⟩
      obtain ⟨ct, hct9⟩ : ∃ z, cl.getD t 0 = z := ⟨_, rfl⟩
      rw [hcb9] at hcb
      rw [hct9] at hct
      have HCB2 : Hid (∀ h : b < cl.length, cl[b]'h = cb) := Lib.hid (fun h => by rw [← hcb9, getD_at h])
      have HCT2 : Hid (∀ h : t < cl.length, cl[t]'h = ct) := Lib.hid (fun h => by rw [← hct9, getD_at h])
      clear hcb9 hct9 GQ q0 q1 q2
      have K3 := Lib.hid (HK.out.below B3.out HK.out.lt)
      have R3 := Lib.hid (HR.out.below B3.out HR.out.lt)
      have c3 : w3.cell? ⟨w.heap.size, 3, none⟩ = some (.int .i64 (b : Int)) := K3.out.cell 3
      have c4 : w3.cell? ⟨w.heap.size, 4, none⟩ = some (.int .i64 (t : Int)) := K3.out.cell 4
      have l0 := K3.out.lt
      have g0 : w3.cell? ⟨W.heap.size, 0, none⟩ = some (.slice xA fs.length yA) := G3.out.cell 0
      have g1 : w3.cell? ⟨W.heap.size, 1, none⟩ = some (.slice xO fs.length yO) := G3.out.cell 1
      have g2 : w3.cell? ⟨W.heap.size, 2, none⟩ = some (.slice xI fs.length yI) := G3.out.cell 2
      have lg := G3.out.lt
      have HH := Lib.hid (And.intro h1 (And.intro h2 h3))
      clear h1 h2 h3 hws hz3
      go_upto_region 17 with fail
      have hI := (Below.refl w3.heap.size w3).drew
      refine wp_region_sched (Below w3.heap.size w3) 17 (List.range 17) (List.range 17) (by kernel_rfl) (by kernel_rfl) hI ?_
      repeat
        apply wpSched_q rfl rfl
        case h =>
          intro w' hI K hK
          have c3' := (hI.cell (p := ⟨w.heap.size, 3, none⟩) l0).trans c3
          have c4' := (hI.cell (p := ⟨w.heap.size, 4, none⟩) l0).trans c4
          have hcb' := (hI.cell (p := ⟨bv, ov + b, none⟩) hbV).trans hcb
          have hct' := (hI.cell (p := ⟨bv, ov + t, none⟩) hbV).trans hct
          have g0' := (hI.cell (p := ⟨W.heap.size, 0, none⟩) lg).trans g0
          have g1' := (hI.cell (p := ⟨W.heap.size, 1, none⟩) lg).trans g1
          have g2' := (hI.cell (p := ⟨W.heap.size, 2, none⟩) lg).trans g2
          simp only [quietV, stillV]
          go_simp
          exact hK
        go_simp
      refine wpSched_nil ?_
      try simp only [List.drop_succ_cons, List.drop_zero, List.drop_nil]
      have zd : w3.heap.size ≤ (World.drew w3).heap.size := Nat.le_refl _
      have zd2 : (World.drew w3).heap.size ≤ w3.heap.size := Nat.le_refl _
      replace R3 := Lib.hid (R3.out.below hI R3.out.lt)
      replace Q0 := Lib.hid (Q0.out.below hI)
      replace Q1 := Lib.hid (Q1.out.below hI)
      replace Q2 := Lib.hid (Q2.out.below hI)
      have BW5 := Lib.hid (bthen BW3.out hI)
      clear hI c3 c4 hcb hct g0 g1 g2 l0 lg K3 G3
      have HZ3 := Lib.hid (And.intro zd zd2)
      clear zd zd2
      generalize World.drew w3 = w5 at *
      have hws := HWS.out
      have hz3 := Z3.out
      have hzz := HZ3.out
      have hhh := HH.out
      have EZ : Hid ((World.setCell (World.setCell (World.setCell (World.setCell (World.setCell w5 ⟨w.heap.size + 1, 0, none⟩ (.slice xA fs.length yA)) ⟨w.heap.size + 1, 1, none⟩ (.slice xO fs.length yO)) ⟨w.heap.size + 1, 2, none⟩ (.slice xI fs.length yI)) ⟨w.heap.size + 1, 3, none⟩ (.int .i64 (cb : Int))) ⟨w.heap.size + 1, 4, none⟩ (.int .i64 (ct : Int))).heap.size = w5.heap.size) := Lib.hid (by simp [World.setCell])
      have ZA : Hid (ObS w.heap.size H1 _ _ _) := Lib.hid (((ObS.setBelow (ObS.setBelow (ObS.setBelow (ObS.setBelow (ObS.setBelow Q0.out (p := ⟨w.heap.size + 1, 0, none⟩) (by show w.heap.size + 1 < _; omega) (.slice xA fs.length yA)) (p := ⟨w.heap.size + 1, 1, none⟩) (by show w.heap.size + 1 < _; omega) (.slice xO fs.length yO)) (p := ⟨w.heap.size + 1, 2, none⟩) (by show w.heap.size + 1 < _; omega) (.slice xI fs.length yI)) (p := ⟨w.heap.size + 1, 3, none⟩) (by show w.heap.size + 1 < _; omega) (.int .i64 (cb : Int))) (p := ⟨w.heap.size + 1, 4, none⟩) (by show w.heap.size + 1 < _; omega) (.int .i64 (ct : Int)))).wide (lo' := w.heap.size) (hi' := H1) (by omega) (by omega))
      have ZO : Hid (ObS H1 H2 _ _ _) := Lib.hid (((ObS.setBelow (ObS.setBelow (ObS.setBelow (ObS.setBelow (ObS.setBelow Q1.out (p := ⟨w.heap.size + 1, 0, none⟩) (by show w.heap.size + 1 < _; omega) (.slice xA fs.length yA)) (p := ⟨w.heap.size + 1, 1, none⟩) (by show w.heap.size + 1 < _; omega) (.slice xO fs.length yO)) (p := ⟨w.heap.size + 1, 2, none⟩) (by show w.heap.size + 1 < _; omega) (.slice xI fs.length yI)) (p := ⟨w.heap.size + 1, 3, none⟩) (by show w.heap.size + 1 < _; omega) (.int .i64 (cb : Int))) (p := ⟨w.heap.size + 1, 4, none⟩) (by show w.heap.size + 1 < _; omega) (.int .i64 (ct : Int)))).wide (lo' := H1) (hi' := H2) (by omega) (by omega))
      have ZI : Hid (ObS H2 w5.heap.size _ _ _) := Lib.hid (((ObS.setBelow (ObS.setBelow (ObS.setBelow (ObS.setBelow (ObS.setBelow Q2.out (p := ⟨w.heap.size + 1, 0, none⟩) (by show w.heap.size + 1 < _; omega) (.slice xA fs.length yA)) (p := ⟨w.heap.size + 1, 1, none⟩) (by show w.heap.size + 1 < _; omega) (.slice xO fs.length yO)) (p := ⟨w.heap.size + 1, 2, none⟩) (by show w.heap.size + 1 < _; omega) (.slice xI fs.length yI)) (p := ⟨w.heap.size + 1, 3, none⟩) (by show w.heap.size + 1 < _; omega) (.int .i64 (cb : Int))) (p := ⟨w.heap.size + 1, 4, none⟩) (by show w.heap.size + 1 < _; omega) (.int .i64 (ct : Int)))).wide (lo' := H2) (hi' := w5.heap.size) (by omega) (by omega))
      rw [← EZ.out] at ZI
      have hH2 : H2 ≤ (World.setCell (World.setCell (World.setCell (World.setCell (World.setCell w5 ⟨w.heap.size + 1, 0, none⟩ (.slice xA fs.length yA)) ⟨w.heap.size + 1, 1, none⟩ (.slice xO fs.length yO)) ⟨w.heap.size + 1, 2, none⟩ (.slice xI fs.length yI)) ⟨w.heap.size + 1, 3, none⟩ (.int .i64 (cb : Int))) ⟨w.heap.size + 1, 4, none⟩ (.int .i64 (ct : Int))).heap.size := by rw [EZ.out]; omega
      have ZB := Lib.hid (Below.setCell (Below.setCell (Below.setCell (Below.setCell (Below.setCell BW5.out (p := ⟨w.heap.size + 1, 0, none⟩) (Nat.le_succ _) (.slice xA fs.length yA)) (p := ⟨w.heap.size + 1, 1, none⟩) (Nat.le_succ _) (.slice xO fs.length yO)) (p := ⟨w.heap.size + 1, 2, none⟩) (Nat.le_succ _) (.slice xI fs.length yI)) (p := ⟨w.heap.size + 1, 3, none⟩) (Nat.le_succ _) (.int .i64 (cb : Int))) (p := ⟨w.heap.size + 1, 4, none⟩) (Nat.le_succ _) (.int .i64 (ct : Int)))
      have H12 : w.heap.size ≤ H1 ∧ H1 ≤ H2 := ⟨by omega, by omega⟩
      have HO2 := Lib.hid (And.intro H12 hH2)
      have kr := R3.out.cell
      have fr := R3.out.frozen
      have lr := R3.out.lt
      clear hws hz3 hzz hhh H12 hH2 HU HV
      go_wp2
      refine bodyPost_ret (v := .agg #[.slice xA fs.length yA, .slice xO fs.length yO, .slice xI fs.length yI, .int .i64 (cb : Int), .int .i64 (ct : Int)]) (by simp [results, Tryz.results39, go_sem, kr, fr, lr]) rfl ⟨_, _, _, by rw [HCB2.out, HCT2.out], H1, HO2.out.1.1, H2, HO2.out.1.2, HO2.out.2, ZA.out, ZO.out, ZI.out, ZB.out⟩
/- Heyting algebras: QuotientAlgebra of the program. Written by gen18Z.py. -/
theorem dvd_stay (key : Nat → Nat) {x n : Nat} (h : x ≤ n) {y : Nat} (hy : y < x) : (dvd key n).1.getD y 0 = (dvd key x).1.getD y 0 := by
  induction n with
  | zero => omega
  | succ n ih =>
    rcases Nat.lt_or_ge n x with h1 | h1
    · obtain rfl : x = n + 1 := by omega
      rfl
    · rw [dvd_keep key n y (by omega)]
      exact ih h1
theorem dvd_at (key : Nat → Nat) (x : Nat) : (dvd key (x + 1)).1.getD x 0 < (dvd key x).2 ∧ (dvd key (x + 1)).2 = (dvd key x).2 ∨ (dvd key (x + 1)).1.getD x 0 = (dvd key x).2 ∧ (dvd key (x + 1)).2 = (dvd key x).2 + 1 := by
  have hl := dvd_length key x
  cases hf : (List.range x).find? (fun z => decide (key z = key x)) with
  | some y =>
    have hy := List.mem_range.1 (List.mem_of_find?_eq_some hf)
    refine .inl ?_
    rw [dvd, hf]
    refine ⟨?_, rfl⟩
    simp only
    rw [List.getD_eq_getElem?_getD, List.getElem?_append_right (by omega), hl, Nat.sub_self]
    exact dvd_lt key x _ (by rw [getD_at (by omega)]; exact List.getElem_mem _)
  | none =>
    refine .inr ?_
    rw [dvd, hf]
    refine ⟨?_, rfl⟩
    simp only
    rw [List.getD_eq_getElem?_getD, List.getElem?_append_right (by omega), hl, Nat.sub_self]
    rfl
/-- the least members of the classes are their first places -/
theorem fsl_dvd (key : Nat → Nat) (n x : Nat) (hx : x ≤ n) : (fsl (dvd key n).1 x).length = (dvd key x).2 ∧ ∀ c, c < (dvd key x).2 → (fsl (dvd key n).1 x).getD c 0 < x ∧ (dvd key n).1.getD ((fsl (dvd key n).1 x).getD c 0) 0 = c ∧ ∀ j, j < (fsl (dvd key n).1 x).getD c 0 → (dvd key n).1.getD j 0 ≠ c := by
  induction x with
  | zero => exact ⟨rfl, fun c hc => by simp [dvd] at hc⟩
  | succ x ih =>
    obtain ⟨h1, h2⟩ := ih (by omega)
    have hs := dvd_stay key hx (y := x) (by omega)
    rcases dvd_at key x with ⟨e1, e2⟩ | ⟨e1, e2⟩
    · have hne : ¬ (dvd key n).1.getD x 0 = (fsl (dvd key n).1 x).length := by rw [hs, h1]; omega
      rw [fsl, if_neg hne, e2]
      exact ⟨h1, fun c hc => ⟨Nat.lt_succ_of_lt (h2 c hc).1, (h2 c hc).2⟩⟩
    · have heq : (dvd key n).1.getD x 0 = (fsl (dvd key n).1 x).length := by rw [hs, h1]; omega
      rw [fsl, if_pos heq, e2, List.length_append, List.length_singleton, h1]
      refine ⟨rfl, fun c hc => ?_⟩
      by_cases hcc : c < (dvd key x).2
      · have eg : (fsl (dvd key n).1 x ++ [x]).getD c 0 = (fsl (dvd key n).1 x).getD c 0 := by
          rw [List.getD_eq_getElem?_getD, List.getElem?_append_left (by omega), ← List.getD_eq_getElem?_getD]
        rw [eg]
        exact ⟨Nat.lt_succ_of_lt (h2 c hcc).1, (h2 c hcc).2⟩
      · have ec : c = (dvd key x).2 := by omega
        have eg : (fsl (dvd key n).1 x ++ [x]).getD c 0 = x := by
          rw [List.getD_eq_getElem?_getD, List.getElem?_append_right (by omega), show c - (fsl (dvd key n).1 x).length = 0 by omega]
          rfl
        rw [eg]
        refine ⟨Nat.lt_succ_self _, by rw [heq, h1, ec], fun j hj => ?_⟩
        have hj2 := dvd_stay key (show x ≤ n by omega) hj
        have hl := dvd_length key x
        have : (dvd key x).1.getD j 0 < (dvd key x).2 := dvd_lt key x _ (by rw [getD_at (by omega)]; exact List.getElem_mem _)
        omega
set_option maxHeartbeats 2000000 in
set_option maxRecDepth 100000 in
theorem impl_QuotientAlgebra (a o i : Value) (b t m : Int) (A O I : List (List Int)) (w : World) (h : Hy w a o i A O I) (hs : SzH A O I) :
    Calls Tryz.prog 10 #[.agg #[a, o, i, .int .i64 b, .int .i64 t], .int .i64 m] w fun e w' => ∃ u0 u1 u2 : Value, ∃ H1 H2 : Nat, e = .returned (.tuple #[.agg #[u0, u1, u2, .int .i64 (qNum b A O I b t m), .int .i64 (qNum t A O I b t m)], .int .i64 (fcd A O I b t m)]) ∧
      w.heap.size ≤ H1 ∧ H1 ≤ H2 ∧ H2 ≤ w'.heap.size ∧ ObS w.heap.size H1 w' u0 (qTab A A O I b t m) ∧ ObS H1 H2 w' u1 (qTab O A O I b t m) ∧ ObS H2 w'.heap.size w' u2 (qTab I A O I b t m) ∧ Below w.heap.size w w' := by
  obtain ⟨va, ca, rfl⟩ := h.a.opn
  obtain ⟨vo, co, rfl⟩ := h.o.opn
  obtain ⟨vi, ci, rfl⟩ := h.i.opn
  have IS := Lib.hid (fun W (hW : Below w.heap.size w W) => impl_filterCode _ _ _ b t m A O I W (h.below hW) hs)
  have E1 : Hid (fcd A O I b t m ≠ 0 → qNum b A O I b t m = 0 ∧ qNum t A O I b t m = 0 ∧ qTab A A O I b t m = [] ∧ qTab O A O I b t m = [] ∧ qTab I A O I b t m = []) := Lib.hid (fun hh => by unfold qNum qTab; simp only [if_neg hh]; exact ⟨trivial, trivial, trivial, trivial, trivial⟩)
  have HH := Lib.hid h
  have hbx := below_alloc' w (.cells #[.slice va A.length ca, .slice vo O.length co, .slice vi I.length ci, .int .i64 b, .int .i64 t] 26)
  have hk0 := Blk.new w 26 #[.slice va A.length ca, .slice vo O.length co, .slice vi I.length ci, .int .i64 b, .int .i64 t]
  obtain ⟨W, hW⟩ : ∃ W, (w.alloc (.cells #[.slice va A.length ca, .slice vo O.length co, .slice vi I.length ci, .int .i64 b, .int .i64 t] 26)).alloc (.cells #[.slice none 0 0, .slice none 0 0, .slice none 0 0, .int .i64 0, .int .i64 0] 26) = W := ⟨_, rfl⟩
  have hb2 := below_alloc' (w.alloc (.cells #[.slice va A.length ca, .slice vo O.length co, .slice vi I.length ci, .int .i64 b, .int .i64 t] 26)) (.cells #[.slice none 0 0, .slice none 0 0, .slice none 0 0, .int .i64 0, .int .i64 0] 26)
  rw [hW] at hb2
  have BW := Lib.hid (bthen hbx hb2)
  have HK := Lib.hid (hk0.below hb2 hk0.lt)
  have HR : Hid (Blk W (w.heap.size + 1) 26 #[.slice none 0 0, .slice none 0 0, .slice none 0 0, .int .i64 0, .int .i64 0]) := Lib.hid (by rw [← hW]; exact Blk.new' _ _ _ (by simp))
  have HWS : Hid (W.heap.size = w.heap.size + 2) := Lib.hid (by rw [← hW]; simp)
  clear hbx hk0 h
  go_enter Tryz.func10, Tryz.ntmps10
  go_upto_region 1 with fail
  try rw [hW]
  clear hW hb2
  have k0 := HK.out.cell
  have l0 := HK.out.lt
  go_wp2_with fail
  refine (IS.out _ BW.out).mono ?_
  rintro e w1 ⟨rfl, hb⟩
  have B1 := Lib.hid (bthen BW.out hb)
  have K1 := Lib.hid (HK.out.below hb l0)
  have R1 := Lib.hid (HR.out.below hb HR.out.lt)
  have WS1 := Lib.hid (show w.heap.size + 2 ≤ w1.heap.size by have := hb.size; have := HWS.out; omega)
  clear k0 l0 hb IS HK HR BW HWS
  by_cases e1 : fcd A O I b t m = 0
  rotate_left
  · have E := Lib.hid (E1.out e1)
    have q1 : (fcd A O I b t m != 0) = true := bne_iff_ne.2 e1
    obtain ⟨z, hz⟩ : ∃ z, fcd A O I b t m = z := ⟨_, rfl⟩
    have HZ := Lib.hid hz
    rw [hz] at q1 ⊢
    clear e1 E1 hz
    have kr := R1.out.cell
    have fr := R1.out.frozen
    have lr := R1.out.lt
    go_wp2
    refine bodyPost_ret (v := .tuple #[.agg #[.slice none 0 0, .slice none 0 0, .slice none 0 0, .int .i64 0, .int .i64 0], .int .i64 z]) (by simp [results, Tryz.results10, go_sem, kr, fr, lr]) rfl ⟨_, _, _, w.heap.size, w.heap.size, by rw [HZ.out, E.out.1, E.out.2.1], Nat.le_refl _, Nat.le_refl _, (by have := (Below.setCell (Below.setCell (Below.setCell (Below.setCell (Below.setCell B1.out (p := ⟨w.heap.size + 1, 0, none⟩) (Nat.le_succ _) (.slice none 0 0)) (p := ⟨w.heap.size + 1, 1, none⟩) (Nat.le_succ _) (.slice none 0 0)) (p := ⟨w.heap.size + 1, 2, none⟩) (Nat.le_succ _) (.slice none 0 0)) (p := ⟨w.heap.size + 1, 3, none⟩) (Nat.le_succ _) (.int .i64 0)) (p := ⟨w.heap.size + 1, 4, none⟩) (Nat.le_succ _) (.int .i64 0)).size; exact this), ?_, ?_, ?_, ?_⟩
    · rw [E.out.2.2.1]; exact ObS.nil _ _ _
    · rw [E.out.2.2.2.1]; exact ObS.nil _ _ _
    · rw [E.out.2.2.2.2]; exact ObS.nil _ _ _
    · exact (Below.setCell (Below.setCell (Below.setCell (Below.setCell (Below.setCell B1.out (p := ⟨w.heap.size + 1, 0, none⟩) (Nat.le_succ _) (.slice none 0 0)) (p := ⟨w.heap.size + 1, 1, none⟩) (Nat.le_succ _) (.slice none 0 0)) (p := ⟨w.heap.size + 1, 2, none⟩) (Nat.le_succ _) (.slice none 0 0)) (p := ⟨w.heap.size + 1, 3, none⟩) (Nat.le_succ _) (.int .i64 0)) (p := ⟨w.heap.size + 1, 4, none⟩) (Nat.le_succ _) (.int .i64 0))
  obtain ⟨A1, O1, I1, b1, t1, m1, rfl, rfl, rfl, rfl, rfl, rfl, hm, hT, hf⟩ := fcd_0 e1
  have LA := Lib.hid (lil_length A1)
  have E0 := Lib.hid e1
  have EV : Hid (qNum b1 (lil A1) (lil O1) (lil I1) b1 t1 m1 = (((ccl (ordH A1) m1 A1.length).1.getD b1 0 : Nat) : Int) ∧ qNum t1 (lil A1) (lil O1) (lil I1) b1 t1 m1 = (((ccl (ordH A1) m1 A1.length).1.getD t1 0 : Nat) : Int)) := Lib.hid (by
    unfold qNum qcl9
    rw [if_pos e1, if_pos e1, nsOf_lil, LA.out, Int.toNat_natCast, Int.toNat_natCast, Int.toNat_natCast]
    exact ⟨rfl, rfl⟩)
  have ET : Hid (∀ X : List (List Nat), qTab (lil X) (lil A1) (lil O1) (lil I1) b1 t1 m1 = tabI (qe X (fsl (ccl (ordH A1) m1 A1.length).1 A1.length) (ccl (ordH A1) m1 A1.length).1) (fsl (ccl (ordH A1) m1 A1.length).1 A1.length).length (fsl (ccl (ordH A1) m1 A1.length).1 A1.length).length) := Lib.hid (fun X => by
    unfold qTab qtb qfs9 qcl9
    rw [if_pos e1, nsOf_lil, LA.out, Int.toNat_natCast, nT_lil])
  have h30 := hT.n30
  have CLS := Lib.hid (fun W (hW : Below w.heap.size w W) => impl_congruence _ _ _ A1 O1 I1 b1 t1 m1 W (HH.out.below hW) hT hm)
  have hcl := ccl_length (ordH A1) m1 A1.length
  have FD := Lib.hid (show (fsl (ccl (ordH A1) m1 A1.length).1 A1.length).length = (ccl (ordH A1) m1 A1.length).2 ∧ _ from fsl_dvd (fun y => (rlM (ordH A1) m1).getD y 0) A1.length A1.length (Nat.le_refl _))
  have MXX := Lib.hid (show mx (ccl (ordH A1) m1 A1.length).1 A1.length = (ccl (ordH A1) m1 A1.length).2 from (dvd_rgf (fun y => (rlM (ordH A1) m1).getD y 0) A1.length).2)
  have CNT := Lib.hid (show (ccl (ordH A1) m1 A1.length).2 ≤ A1.length from dvd_count _ _)
  have hcx : ∀ x ∈ (ccl (ordH A1) m1 A1.length).1, x < 1073741824 := fun x hx => by
    have h1 := dvd_lt _ _ x hx
    have h2 := dvd_count (fun y => (rlM (ordH A1) m1).getD y 0) A1.length
    omega
  rw [e1]
  change Hid (_ ∧ ∀ c, c < (ccl (ordH A1) m1 A1.length).2 → (fsl (ccl (ordH A1) m1 A1.length).1 A1.length).getD c 0 < A1.length ∧ (ccl (ordH A1) m1 A1.length).1.getD ((fsl (ccl (ordH A1) m1 A1.length).1 A1.length).getD c 0) 0 = c ∧ ∀ j, j < (fsl (ccl (ordH A1) m1 A1.length).1 A1.length).getD c 0 → (ccl (ordH A1) m1 A1.length).1.getD j 0 ≠ c) at FD
  obtain ⟨cl, hcl9⟩ : ∃ cl, (ccl (ordH A1) m1 A1.length).1 = cl := ⟨_, rfl⟩
  rw [hcl9] at CLS EV ET hcl hcx FD MXX
  generalize (ccl (ordH A1) m1 A1.length).2 = cnt at *
  have MX256 : ∀ i, cl.getD i 0 < 256 := fun i => by
    rcases Nat.lt_or_ge i cl.length with h9 | h9
    · have h8 := mx_gt cl (show i < A1.length by omega)
      have h7 := MXX.out
      have h6 := CNT.out
      omega
    · rw [List.getD_eq_getElem?_getD, List.getElem?_eq_none h9]; exact (by decide : (0 : Nat) < 256)
  have CC := Lib.hid (fun v W (hv : Sl cI W v (li cl)) => impl_classCountM v cl W hv (by omega) MX256)
  rw [hcl, MXX.out] at CC
  have LV := Lib.hid (show (li cl).length = A1.length by rw [li_length, hcl])
  have HCX := Lib.hid (fun i => show cl.getD i 0 < 1073741824 by
    rcases Nat.lt_or_ge i cl.length with h9 | h9
    · rw [getD_at h9]; exact hcx _ (List.getElem_mem h9)
    · rw [List.getD_eq_getElem?_getD, List.getElem?_eq_none h9]; exact (by decide : (0 : Nat) < 1073741824))
  have TBL := Lib.hid (fun u v fs W (hW : Below w.heap.size w W) (hu : Sl cI W u (li fs)) (hv : Sl cI W v (li cl)) (hfs : ∀ i, i < fs.length → fs.getD i 0 < A1.length) (hfl : fs.length ≤ 30) => impl_onClasses _ _ _ u v A1 O1 I1 b1 t1 A1.length fs cl W (HH.out.below hW) hT.tA hT.tO hT.tI h30 hT.bl hT.tl hu hv hcl hfs hfl)
  clear e1 E1 hcl9 hT hm hf hcx HH
  have k0 := K1.out.cell
  have l0 := K1.out.lt
  go_wp2_with fail
  refine (CLS.out _ B1.out).mono ?_
  rintro e w2 ⟨u, rfl, ho, hb⟩
  obtain ⟨vc, cc, rfl⟩ := ho.opn
  rw [LV.out] at ho ⊢
  have HC2 := Lib.hid ho.sl
  have B2 := Lib.hid (bthen B1.out hb)
  have K2 := Lib.hid (K1.out.below hb l0)
  have R2 := Lib.hid (R1.out.below hb R1.out.lt)
  have z12 := hb.size
  clear k0 l0 hb ho CLS
  go_wp2_with fail
  refine (CC.out _ _ HC2.out).mono ?_
  rintro e _ ⟨rfl, rfl⟩
  have hfl9 : (fsl cl A1.length).length = cnt := FD.out.1
  have HF9 := Lib.hid hfl9
  have FD2 := Lib.hid FD.out.2
  have hcnt := CNT.out
  obtain ⟨fs, hfs9⟩ : ∃ fs, fsl cl A1.length = fs := ⟨_, rfl⟩
  rw [hfs9] at FD2 HF9 ET
  have HFS := Lib.hid hfs9
  clear hfl9 hfs9 FD MXX CC MX256
  go_wp2
  go_loopw [8, 22] (fun v i wr => ∃ c : Nat, c ≤ cnt ∧ i = .int .i64 c ∧ Ow cI 2 w2.heap.size wr v (li (fs.take c)) ∧ Below w2.heap.size w2 wr) (fun _ i _ => cnt - (intOf i).toNat)
  case atStart => exact ⟨0, Nat.zero_le _, rfl, Ow.nil _ _, Below.refl _ _⟩
  case round =>
    obtain ⟨c, hc, rfl, ho, hb⟩ := hrel
    obtain ⟨w3, hw3⟩ : ∃ W, W = wr := ⟨_, rfl⟩
    subst hw3
    obtain ⟨vl, c3, rfl⟩ := ho.opn
    have LL := Lib.hid (show (li (fs.take c)).length = c by rw [li_length, List.length_take, HF9.out]; omega)
    rw [LL.out] at ho ⊢
    have O3 := Lib.hid ho
    have B3 := Lib.hid hb
    clear ho hb
    by_cases hlt : c < cnt
    · obtain ⟨p1, p2, p3⟩ := FD2.out c hlt
      have IX := Lib.hid (slices_Index_int64M (.slice vc A1.length cc) (li cl) (c : Int) (fs.getD c 0) w3 (HC2.out.below B3.out) (by rw [LV.out]; omega) (by rw [LV.out]; exact p1) (by rw [List.getElem?_eq_getElem (by rw [LV.out]; exact p1), li_get, p2]) (fun j hj he => by
        rw [List.getElem?_eq_getElem (by rw [LV.out]; omega), li_get] at he
        exact p3 j hj (by have := Option.some.inj he; omega)))
      have ES : Hid (li (fs.take (c + 1)) = li (fs.take c) ++ [((fs.getD c 0 : Nat) : Int)]) := Lib.hid (by
        rw [List.take_succ_eq_append_getElem (by rw [HF9.out]; exact hlt), ← getD_at (by rw [HF9.out]; exact hlt), li_snocP])
      have hz3 := B3.out.size
      obtain ⟨L, hL⟩ : ∃ L, li (fs.take c) = L := ⟨_, rfl⟩
      rw [hL] at O3 LL ES
      generalize fs.getD c 0 = z at *
      clear hL p1 p2 p3
      go_wp2_with fail
      refine IX.out.mono ?_
      rintro e _ ⟨rfl, rfl⟩
      go_wp2_with (at_builtin; refine stopHere ?_)
      refine goHere ?_
      refine ap_one (K := cI) _ ty_int64 rfl _ _ rfl (B := w2.heap.size) (v := .slice vl c c3) (xs := L) rfl O3.out (z : Int) rfl rfl (by have := LL.out; omega) hz3 ?_
      intro v1 w4 ho1 hg1 hb1 hat1
      rw [← ES.out] at ho1
      have O4 := Lib.hid ho1
      have B4 := Lib.hid (B3.out.trans hb1)
      clear ho1 hg1 hb1 hat1
      go_wp2
      exact ⟨⟨c + 1, by omega, by go_num, O4.out, B4.out⟩, by simp [intOf]; omega⟩
    · obtain rfl : c = cnt := by omega
      rw [show fs.take c = fs from List.take_of_length_le (by rw [HF9.out]; exact Nat.le_refl _)] at O3 LL
      have hfs := fsl_lt cl A1.length
      rw [HFS.out] at hfs
      have hfl : fs.length ≤ 30 := by rw [HF9.out]; omega
      have K3 := Lib.hid (K2.out.below B3.out K2.out.lt)
      have R3 := Lib.hid (R2.out.below B3.out R2.out.lt)
      have z23 := B3.out.size
      have T3 := Lib.hid (TBL.out _ _ fs w3 (bthen B2.out B3.out) O3.out.sl (HC2.out.below B3.out) hfs hfl)
      have k0 := K3.out.cell
      have l0 := K3.out.lt
      have hws := WS1.out
      rw [HF9.out] at T3
      clear TBL hfs hfl
      go_wp2_with fail
      refine T3.out.mono ?_
      rintro e w4 ⟨x0, x1, x2, J1, J2, rfl, j1, j2, j3, oA, oO, oI, hb⟩
      have R4 := Lib.hid (R3.out.below hb R3.out.lt)
      have B4 := Lib.hid (bthen (bthen B2.out B3.out) hb)
      obtain ⟨xA, yA, rfl⟩ := oA.opn
      obtain ⟨xO, yO, rfl⟩ := oO.opn
      obtain ⟨xI, yI, rfl⟩ := oI.opn
      have e9A := ET.out A1
      have e9O := ET.out O1
      have e9I := ET.out I1
      rw [HF9.out] at e9A e9O e9I
      rw [← e9A] at oA ⊢
      rw [← e9O] at oO ⊢
      rw [← e9I] at oI ⊢
      generalize (qTab (lil A1) (lil A1) (lil O1) (lil I1) b1 t1 m1).length = nA at *
      generalize (qTab (lil O1) (lil A1) (lil O1) (lil I1) b1 t1 m1).length = nO at *
      generalize (qTab (lil I1) (lil A1) (lil O1) (lil I1) b1 t1 m1).length = nI at *
      generalize cl.getD b1 0 = cb at *
      generalize cl.getD t1 0 = ct at *
      have EZ : Hid ((World.setCell (World.setCell (World.setCell (World.setCell (World.setCell w4 ⟨w.heap.size + 1, 0, none⟩ (.slice xA nA yA)) ⟨w.heap.size + 1, 1, none⟩ (.slice xO nO yO)) ⟨w.heap.size + 1, 2, none⟩ (.slice xI nI yI)) ⟨w.heap.size + 1, 3, none⟩ (.int .i64 (cb : Int))) ⟨w.heap.size + 1, 4, none⟩ (.int .i64 (ct : Int))).heap.size = w4.heap.size) := Lib.hid (by simp [World.setCell])
      have ZA : Hid (ObS w.heap.size J1 _ _ _) := Lib.hid (((ObS.setBelow (ObS.setBelow (ObS.setBelow (ObS.setBelow (ObS.setBelow oA (p := ⟨w.heap.size + 1, 0, none⟩) (by show w.heap.size + 1 < _; omega) (.slice xA nA yA)) (p := ⟨w.heap.size + 1, 1, none⟩) (by show w.heap.size + 1 < _; omega) (.slice xO nO yO)) (p := ⟨w.heap.size + 1, 2, none⟩) (by show w.heap.size + 1 < _; omega) (.slice xI nI yI)) (p := ⟨w.heap.size + 1, 3, none⟩) (by show w.heap.size + 1 < _; omega) (.int .i64 (cb : Int))) (p := ⟨w.heap.size + 1, 4, none⟩) (by show w.heap.size + 1 < _; omega) (.int .i64 (ct : Int)))).wide (lo' := w.heap.size) (by omega) (Nat.le_refl _))
      have ZO : Hid (ObS J1 J2 _ _ _) := Lib.hid ((ObS.setBelow (ObS.setBelow (ObS.setBelow (ObS.setBelow (ObS.setBelow oO (p := ⟨w.heap.size + 1, 0, none⟩) (by show w.heap.size + 1 < _; omega) (.slice xA nA yA)) (p := ⟨w.heap.size + 1, 1, none⟩) (by show w.heap.size + 1 < _; omega) (.slice xO nO yO)) (p := ⟨w.heap.size + 1, 2, none⟩) (by show w.heap.size + 1 < _; omega) (.slice xI nI yI)) (p := ⟨w.heap.size + 1, 3, none⟩) (by show w.heap.size + 1 < _; omega) (.int .i64 (cb : Int))) (p := ⟨w.heap.size + 1, 4, none⟩) (by show w.heap.size + 1 < _; omega) (.int .i64 (ct : Int))))
      have ZI : Hid (ObS J2 _ _ _ _) := Lib.hid ((ObS.setBelow (ObS.setBelow (ObS.setBelow (ObS.setBelow (ObS.setBelow oI (p := ⟨w.heap.size + 1, 0, none⟩) (by show w.heap.size + 1 < _; omega) (.slice xA nA yA)) (p := ⟨w.heap.size + 1, 1, none⟩) (by show w.heap.size + 1 < _; omega) (.slice xO nO yO)) (p := ⟨w.heap.size + 1, 2, none⟩) (by show w.heap.size + 1 < _; omega) (.slice xI nI yI)) (p := ⟨w.heap.size + 1, 3, none⟩) (by show w.heap.size + 1 < _; omega) (.int .i64 (cb : Int))) (p := ⟨w.heap.size + 1, 4, none⟩) (by show w.heap.size + 1 < _; omega) (.int .i64 (ct : Int))))
      rw [← EZ.out] at ZI
      have jj : J2 ≤ (World.setCell (World.setCell (World.setCell (World.setCell (World.setCell w4 ⟨w.heap.size + 1, 0, none⟩ (.slice xA nA yA)) ⟨w.heap.size + 1, 1, none⟩ (.slice xO nO yO)) ⟨w.heap.size + 1, 2, none⟩ (.slice xI nI yI)) ⟨w.heap.size + 1, 3, none⟩ (.int .i64 (cb : Int))) ⟨w.heap.size + 1, 4, none⟩ (.int .i64 (ct : Int))).heap.size := by rw [EZ.out]; exact j3
      have j0 : w.heap.size ≤ J1 := by omega
      have JJ := Lib.hid (And.intro j0 (And.intro j2 jj))
      clear jj j0
      have ZB := Lib.hid (Below.setCell (Below.setCell (Below.setCell (Below.setCell (Below.setCell B4.out (p := ⟨w.heap.size + 1, 0, none⟩) (Nat.le_succ _) (.slice xA nA yA)) (p := ⟨w.heap.size + 1, 1, none⟩) (Nat.le_succ _) (.slice xO nO yO)) (p := ⟨w.heap.size + 1, 2, none⟩) (Nat.le_succ _) (.slice xI nI yI)) (p := ⟨w.heap.size + 1, 3, none⟩) (Nat.le_succ _) (.int .i64 (cb : Int))) (p := ⟨w.heap.size + 1, 4, none⟩) (Nat.le_succ _) (.int .i64 (ct : Int)))
      have kr := R4.out.cell
      have fr := R4.out.frozen
      have lr := R4.out.lt
      clear k0 l0 oA oO oI hb hws e9A e9O e9I ET z12 z23 j1 j2 j3
      go_wp2
      refine bodyPost_ret (v := .tuple #[.agg #[.slice xA nA yA, .slice xO nO yO, .slice xI nI yI, .int .i64 (cb : Int), .int .i64 (ct : Int)], .int .i64 0]) (by simp [results, Tryz.results10, go_sem, kr, fr, lr]) rfl ⟨_, _, _, J1, J2, by rw [E0.out, EV.out.1, EV.out.2], JJ.out.1, JJ.out.2.1, JJ.out.2.2, ZA.out, ZO.out, ZI.out, ZB.out⟩
end Go.Proofs.YtgkogfjifcfkoaaGreat

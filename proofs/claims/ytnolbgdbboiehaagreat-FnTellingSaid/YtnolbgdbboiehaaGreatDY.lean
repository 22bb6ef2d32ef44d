/- Joined of several texts: Dy, Dz. -/
import Derived.Test.YtnolbgdbboiehaaGreatDx
import Derived.Test.YtnolbgdbboiehaaGreatAN2
import Derived.Test.YtnolbgdbboiehaaGreatQU
namespace Go.Proofs.YtnolbgdbboiehaaGreat
open Go.RowKit
set_option linter.unusedVariables false
set_option linter.unusedSimpArgs false
/- The reference's drawing of two models and a world of each, by shape (written by program, gendr4.py). -/
set_option maxRecDepth 100000 in
set_option maxHeartbeats 4000000 in
theorem spec_l07Pair (w0 : World) (v : Value) (xs : List (Fin 256)) (w : World) (g : Nat) (S : Src 104 w0 v xs w g) :
    Calls Tryz.prog 114 #[.pointer (some ⟨g, 0, none⟩)] w fun e w' => ∃ (n k : Int) (u1 u2 v1 v2 : Value) (L1 L2 M1 M2 : List Int), e = .returned (.tuple #[.agg #[.int .i64 n, u1, u2], .agg #[.int .i64 k, v1, v2]]) ∧ (n ≤ 1000 ∧ k ≤ 1000 ∧ L1.length ≤ 9 ∧ L2.length ≤ 6 ∧ M1.length ≤ 9 ∧ M2.length ≤ 6) ∧ Ro cI w.heap.size w' u1 L1 ∧ Ro cI w.heap.size w' u2 L2 ∧ Ro cI w.heap.size w' v1 M1 ∧ Ro cI w.heap.size w' v2 M2 ∧ Src 104 w0 v xs w' g ∧ w.grownBy w' (some g) := by
  have R0 := Blk.new w 28 #[.int .i64 0, .slice none 0 0, .slice none 0 0]
  have P0 := Blk.new' (w.alloc (.cells #[.int .i64 0, .slice none 0 0, .slice none 0 0] 28)) 28 #[.int .i64 0, .slice none 0 0, .slice none 0 0] (g := w.heap.size + 1) (by simp)
  have hb0 := below_alloc' w (.cells #[.int .i64 0, .slice none 0 0, .slice none 0 0] 28)
  have hb1 := below_alloc' (w.alloc (.cells #[.int .i64 0, .slice none 0 0, .slice none 0 0] 28)) (.cells #[.int .i64 0, .slice none 0 0, .slice none 0 0] 28)
  have R := Lib.hid (R0.below hb1 R0.lt)
  have P := Lib.hid P0
  have hb := bthen hb0 hb1
  have HB : Hid (w.heap.size ≤ w.heap.size + 2) := Lib.hid (by omega)
  have ZP : Hid (w.heap.size + 1 ≤ w.heap.size + 1) := Lib.hid (Nat.le_refl _)
  clear hb0 hb1 R0 P0
  have D := Lib.hid ((Dg.start S).below hb)
  clear S hb
  go_enter Tryz.func114, Tryz.ntmps114
  go_upto_region 1 with fail
  generalize World.alloc (World.alloc w _) _ = W at *
  go_wp2_with fail
  refine (spec_l07Model _ _ _ _ _ D.out.S).mono ?_
  rintro e w1 ⟨n, u1, u2, L1, L2, rfl, hn, hL1, hL2, P1, P2, hS, hg⟩
  replace P1 := Lib.hid (P1.mono P.out.lt)
  replace P2 := Lib.hid (P2.mono P.out.lt)
  replace R := Lib.hid (D.out.blk R.out (Nat.le_refl _) hg)
  replace P := Lib.hid (D.out.blk P.out (Nat.le_of_succ_le ZP.out) hg)
  replace D := Lib.hid (D.out.call hS hg)
  clear hS hg
  obtain ⟨A1, c1, rfl⟩ := P1.out.opn
  obtain ⟨A2, c2, rfl⟩ := P2.out.opn
  have PL : Hid (w.heap.size + 1 < w1.heap.size) := Lib.hid P.out.lt
  go_upto_region 2 with fail
  have hb := below_alloc' w1 (.cells #[.int .i64 n, .slice A1 L1.length c1, .slice A2 L2.length c2] 28)
  have M := Lib.hid (Blk.new w1 28 #[.int .i64 n, .slice A1 L1.length c1, .slice A2 L2.length c2])
  have ZM : Hid (w.heap.size + 1 ≤ w1.heap.size) := Lib.hid R.out.lt
  replace P1 := Lib.hid (P1.out.below hb)
  replace P2 := Lib.hid (P2.out.below hb)
  replace R := Lib.hid (R.out.below hb R.out.lt)
  replace P := Lib.hid (P.out.below hb P.out.lt)
  replace D := Lib.hid (D.out.below hb)
  clear hb
  obtain ⟨mb, hmb⟩ : ∃ b, w1.heap.size = b := ⟨_, rfl⟩
  generalize hW2 : World.alloc w1 _ = WM at *
  rw [hmb] at M ZM ⊢
  clear hW2
  have NMb : Hid (w.heap.size ≠ mb ∧ w.heap.size + 1 ≠ mb) := Lib.hid ⟨fun e => by have := ZM.out; omega, fun e => by have := PL.out; omega⟩
  clear hmb
  go_wp2_with fail
  refine (spec_l01Next _ _ _ _ _ 4 D.out.S (by decide) (by decide)).mono ?_
  rintro e w2 ⟨k0, rfl, hk0, hS, hg, -⟩
  replace P1 := Lib.hid (D.out.passR P1.out HB.out hg)
  replace P2 := Lib.hid (D.out.passR P2.out HB.out hg)
  replace R := Lib.hid (D.out.blk R.out (Nat.le_refl _) hg)
  replace P := Lib.hid (D.out.blk P.out (Nat.le_of_succ_le ZP.out) hg)
  replace M := Lib.hid (D.out.blk M.out (Nat.le_of_succ_le ZM.out) hg)
  replace D := Lib.hid (D.out.call hS hg)
  clear hS hg
  cases t0 : ((k0 : Int) == 0)
  · cases t1 : ((k0 : Int) == 1)
    · clear hk0
      go_upto_region 8 with fail
      have hb := (Below.refl w2.heap.size w2).drew
      replace P1 := Lib.hid (P1.out.below hb)
      replace P2 := Lib.hid (P2.out.below hb)
      replace R := Lib.hid (R.out.below hb R.out.lt)
      replace P := Lib.hid (P.out.below hb P.out.lt)
      replace M := Lib.hid (M.out.below hb M.out.lt)
      replace D := Lib.hid (D.out.below hb)
      clear hb
      have hI : (fun X : World => X.cell? ⟨mb, 0, none⟩ = some (.int .i64 n) ∧ X.cell? ⟨mb, 1, none⟩ = some (.slice A1 L1.length c1) ∧ X.cell? ⟨mb, 2, none⟩ = some (.slice A2 L2.length c2)) (World.drew w2) := ⟨M.out.cell 0, M.out.cell 1, M.out.cell 2⟩
      refine wp_region_sched (fun X => X.cell? ⟨mb, 0, none⟩ = some (.int .i64 n) ∧ X.cell? ⟨mb, 1, none⟩ = some (.slice A1 L1.length c1) ∧ X.cell? ⟨mb, 2, none⟩ = some (.slice A2 L2.length c2)) 3 [0, 1] [0, 1, 2] (by kernel_rfl) (by kernel_rfl) hI ?_
      generalize World.drew w2 = w2d at *
      repeat
        apply wpSched_q rfl rfl
        case h =>
          intro w' hI K hK
          have cc0 : w'.cell? ⟨mb, 0, none⟩ = some (.int .i64 n) := hI.1
          have cc1 : w'.cell? ⟨mb, 1, none⟩ = some (.slice A1 L1.length c1) := hI.2.1
          have cc2 : w'.cell? ⟨mb, 2, none⟩ = some (.slice A2 L2.length c2) := hI.2.2
          simp only [quietV, stillV]
          go_simp
          exact hK
        go_simp
      refine wpSched_r rfl rfl ?_ hI
      intro K hK _
      go_simp
      refine (spec_l07Model _ _ _ _ _ D.out.S).mono ?_
      rintro e w3 ⟨k, v1, v2, M1, M2, rfl, hk, hM1, hM2, P3, P4, hS, hg⟩
      replace P3 := Lib.hid (P3.mono P.out.lt)
      replace P4 := Lib.hid (P4.mono P.out.lt)
      replace P1 := Lib.hid (D.out.passR P1.out HB.out hg)
      replace P2 := Lib.hid (D.out.passR P2.out HB.out hg)
      replace R := Lib.hid (D.out.blk R.out (Nat.le_refl _) hg)
      replace P := Lib.hid (D.out.blk P.out (Nat.le_of_succ_le ZP.out) hg)
      replace M := Lib.hid (D.out.blk M.out (Nat.le_of_succ_le ZM.out) hg)
      replace D := Lib.hid (D.out.call hS hg)
      clear hS hg
      obtain ⟨A3, c3, rfl⟩ := P3.out.opn
      obtain ⟨A4, c4, rfl⟩ := P4.out.opn
      clear hI
      have hI : (fun X : World => X.cell? ⟨mb, 0, none⟩ = some (.int .i64 n) ∧ X.cell? ⟨mb, 1, none⟩ = some (.slice A1 L1.length c1) ∧ X.cell? ⟨mb, 2, none⟩ = some (.slice A2 L2.length c2)) w3 := ⟨M.out.cell 0, M.out.cell 1, M.out.cell 2⟩
      refine hK _ _ hI ?_
      clear hK K
      repeat
        apply wpSched_q rfl rfl
        case h =>
          intro w' hI K hK
          simp only [quietV, stillV]
          go_simp
          exact hK
        go_simp
      refine wpSched_nil ?_
      try simp only [List.drop_succ_cons, List.drop_zero, List.drop_nil]
      clear hI
      have kr := R.out.cell
      have fr := R.out.frozen
      have lr := R.out.lt
      have kp := P.out.cell
      have fp := P.out.frozen
      have lp := P.out.lt
      go_wp2
      refine bodyPost_ret (v := .tuple #[.agg #[.int .i64 n, .slice A1 L1.length c1, .slice A2 L2.length c2], .agg #[.int .i64 k, .slice A3 M1.length c3, .slice A4 M2.length c4]]) (by simp [results, Tryz.results114, go_sem, kr, fr, lr, kp, fp, lp]) rfl ⟨n, k, _, _, _, _, L1, L2, M1, M2, rfl, ⟨hn, hk, hL1, hL2, hM1, hM2⟩, ?_, ?_, ?_, ?_, ?_, ?_⟩
      · exact (((((((P1.out.low (p := ⟨w.heap.size, 0, none⟩) (Nat.lt_succ_of_lt (Nat.lt_succ_self _)) _).low (p := ⟨w.heap.size, 1, none⟩) (Nat.lt_succ_of_lt (Nat.lt_succ_self _)) _).low (p := ⟨w.heap.size, 2, none⟩) (Nat.lt_succ_of_lt (Nat.lt_succ_self _)) _).low (p := ⟨w.heap.size + 1, 0, none⟩) (Nat.lt_succ_self _) _).low (p := ⟨w.heap.size + 1, 1, none⟩) (Nat.lt_succ_self _) _).low (p := ⟨w.heap.size + 1, 2, none⟩) (Nat.lt_succ_self _) _)).mono HB.out
      · exact (((((((P2.out.low (p := ⟨w.heap.size, 0, none⟩) (Nat.lt_succ_of_lt (Nat.lt_succ_self _)) _).low (p := ⟨w.heap.size, 1, none⟩) (Nat.lt_succ_of_lt (Nat.lt_succ_self _)) _).low (p := ⟨w.heap.size, 2, none⟩) (Nat.lt_succ_of_lt (Nat.lt_succ_self _)) _).low (p := ⟨w.heap.size + 1, 0, none⟩) (Nat.lt_succ_self _) _).low (p := ⟨w.heap.size + 1, 1, none⟩) (Nat.lt_succ_self _) _).low (p := ⟨w.heap.size + 1, 2, none⟩) (Nat.lt_succ_self _) _)).mono HB.out
      · exact (((((((P3.out.low (p := ⟨w.heap.size, 0, none⟩) (Nat.lt_succ_of_lt (Nat.lt_succ_self _)) _).low (p := ⟨w.heap.size, 1, none⟩) (Nat.lt_succ_of_lt (Nat.lt_succ_self _)) _).low (p := ⟨w.heap.size, 2, none⟩) (Nat.lt_succ_of_lt (Nat.lt_succ_self _)) _).low (p := ⟨w.heap.size + 1, 0, none⟩) (Nat.lt_succ_self _) _).low (p := ⟨w.heap.size + 1, 1, none⟩) (Nat.lt_succ_self _) _).low (p := ⟨w.heap.size + 1, 2, none⟩) (Nat.lt_succ_self _) _)).mono HB.out
      · exact (((((((P4.out.low (p := ⟨w.heap.size, 0, none⟩) (Nat.lt_succ_of_lt (Nat.lt_succ_self _)) _).low (p := ⟨w.heap.size, 1, none⟩) (Nat.lt_succ_of_lt (Nat.lt_succ_self _)) _).low (p := ⟨w.heap.size, 2, none⟩) (Nat.lt_succ_of_lt (Nat.lt_succ_self _)) _).low (p := ⟨w.heap.size + 1, 0, none⟩) (Nat.lt_succ_self _) _).low (p := ⟨w.heap.size + 1, 1, none⟩) (Nat.lt_succ_self _) _).low (p := ⟨w.heap.size + 1, 2, none⟩) (Nat.lt_succ_self _) _)).mono HB.out
      · exact (((((((D.out.set (p := ⟨w.heap.size, 0, none⟩) (Nat.le_refl _) _).set (p := ⟨w.heap.size, 1, none⟩) (Nat.le_refl _) _).set (p := ⟨w.heap.size, 2, none⟩) (Nat.le_refl _) _).set (p := ⟨w.heap.size + 1, 0, none⟩) (Nat.le_succ _) _).set (p := ⟨w.heap.size + 1, 1, none⟩) (Nat.le_succ _) _).set (p := ⟨w.heap.size + 1, 2, none⟩) (Nat.le_succ _) _)).S
      · exact (((((((D.out.set (p := ⟨w.heap.size, 0, none⟩) (Nat.le_refl _) _).set (p := ⟨w.heap.size, 1, none⟩) (Nat.le_refl _) _).set (p := ⟨w.heap.size, 2, none⟩) (Nat.le_refl _) _).set (p := ⟨w.heap.size + 1, 0, none⟩) (Nat.le_succ _) _).set (p := ⟨w.heap.size + 1, 1, none⟩) (Nat.le_succ _) _).set (p := ⟨w.heap.size + 1, 2, none⟩) (Nat.le_succ _) _)).gr
    · clear hk0
      have km := M.out.cell
      have lm := M.out.lt
      go_wp2_with fail
      refine (spec_l06Is n _ _ L1 L2 _ P1.out.1 P2.out.1 (by omega) (by omega)).mono ?_
      rintro e w4 ⟨rfl, hb⟩
      replace P1 := Lib.hid (P1.out.below hb)
      replace P2 := Lib.hid (P2.out.below hb)
      replace R := Lib.hid (R.out.below hb R.out.lt)
      replace P := Lib.hid (P.out.below hb P.out.lt)
      replace M := Lib.hid (M.out.below hb M.out.lt)
      replace D := Lib.hid (D.out.below hb)
      clear hb
      clear km lm
      cases hok : mdOk n L1 L2
      · skip
        go_upto_region 8 with fail
        have hb := (Below.refl w4.heap.size w4).drew
        replace P1 := Lib.hid (P1.out.below hb)
        replace P2 := Lib.hid (P2.out.below hb)
        replace R := Lib.hid (R.out.below hb R.out.lt)
        replace P := Lib.hid (P.out.below hb P.out.lt)
        replace M := Lib.hid (M.out.below hb M.out.lt)
        replace D := Lib.hid (D.out.below hb)
        clear hb
        have hI : (fun X : World => X.cell? ⟨mb, 0, none⟩ = some (.int .i64 n) ∧ X.cell? ⟨mb, 1, none⟩ = some (.slice A1 L1.length c1) ∧ X.cell? ⟨mb, 2, none⟩ = some (.slice A2 L2.length c2)) (World.drew w4) := ⟨M.out.cell 0, M.out.cell 1, M.out.cell 2⟩
        refine wp_region_sched (fun X => X.cell? ⟨mb, 0, none⟩ = some (.int .i64 n) ∧ X.cell? ⟨mb, 1, none⟩ = some (.slice A1 L1.length c1) ∧ X.cell? ⟨mb, 2, none⟩ = some (.slice A2 L2.length c2)) 3 [0, 1] [0, 1, 2] (by kernel_rfl) (by kernel_rfl) hI ?_
        generalize World.drew w4 = w4d at *
        repeat
          apply wpSched_q rfl rfl
          case h =>
            intro w' hI K hK
            have cc0 : w'.cell? ⟨mb, 0, none⟩ = some (.int .i64 n) := hI.1
            have cc1 : w'.cell? ⟨mb, 1, none⟩ = some (.slice A1 L1.length c1) := hI.2.1
            have cc2 : w'.cell? ⟨mb, 2, none⟩ = some (.slice A2 L2.length c2) := hI.2.2
            simp only [quietV, stillV]
            go_simp
            exact hK
          go_simp
        refine wpSched_r rfl rfl ?_ hI
        intro K hK _
        go_simp
        refine (spec_l07Model _ _ _ _ _ D.out.S).mono ?_
        rintro e w5 ⟨k, v1, v2, M1, M2, rfl, hk, hM1, hM2, P3, P4, hS, hg⟩
        replace P3 := Lib.hid (P3.mono P.out.lt)
        replace P4 := Lib.hid (P4.mono P.out.lt)
        replace P1 := Lib.hid (D.out.passR P1.out HB.out hg)
        replace P2 := Lib.hid (D.out.passR P2.out HB.out hg)
        replace R := Lib.hid (D.out.blk R.out (Nat.le_refl _) hg)
        replace P := Lib.hid (D.out.blk P.out (Nat.le_of_succ_le ZP.out) hg)
        replace M := Lib.hid (D.out.blk M.out (Nat.le_of_succ_le ZM.out) hg)
        replace D := Lib.hid (D.out.call hS hg)
        clear hS hg
        obtain ⟨A3, c3, rfl⟩ := P3.out.opn
        obtain ⟨A4, c4, rfl⟩ := P4.out.opn
        clear hI
        have hI : (fun X : World => X.cell? ⟨mb, 0, none⟩ = some (.int .i64 n) ∧ X.cell? ⟨mb, 1, none⟩ = some (.slice A1 L1.length c1) ∧ X.cell? ⟨mb, 2, none⟩ = some (.slice A2 L2.length c2)) w5 := ⟨M.out.cell 0, M.out.cell 1, M.out.cell 2⟩
        refine hK _ _ hI ?_
        clear hK K
        repeat
          apply wpSched_q rfl rfl
          case h =>
            intro w' hI K hK
            simp only [quietV, stillV]
            go_simp
            exact hK
          go_simp
        refine wpSched_nil ?_
        try simp only [List.drop_succ_cons, List.drop_zero, List.drop_nil]
        clear hI
        have kr := R.out.cell
        have fr := R.out.frozen
        have lr := R.out.lt
        have kp := P.out.cell
        have fp := P.out.frozen
        have lp := P.out.lt
        go_wp2
        refine bodyPost_ret (v := .tuple #[.agg #[.int .i64 n, .slice A1 L1.length c1, .slice A2 L2.length c2], .agg #[.int .i64 k, .slice A3 M1.length c3, .slice A4 M2.length c4]]) (by simp [results, Tryz.results114, go_sem, kr, fr, lr, kp, fp, lp]) rfl ⟨n, k, _, _, _, _, L1, L2, M1, M2, rfl, ⟨hn, hk, hL1, hL2, hM1, hM2⟩, ?_, ?_, ?_, ?_, ?_, ?_⟩
        · exact (((((((P1.out.low (p := ⟨w.heap.size, 0, none⟩) (Nat.lt_succ_of_lt (Nat.lt_succ_self _)) _).low (p := ⟨w.heap.size, 1, none⟩) (Nat.lt_succ_of_lt (Nat.lt_succ_self _)) _).low (p := ⟨w.heap.size, 2, none⟩) (Nat.lt_succ_of_lt (Nat.lt_succ_self _)) _).low (p := ⟨w.heap.size + 1, 0, none⟩) (Nat.lt_succ_self _) _).low (p := ⟨w.heap.size + 1, 1, none⟩) (Nat.lt_succ_self _) _).low (p := ⟨w.heap.size + 1, 2, none⟩) (Nat.lt_succ_self _) _)).mono HB.out
        · exact (((((((P2.out.low (p := ⟨w.heap.size, 0, none⟩) (Nat.lt_succ_of_lt (Nat.lt_succ_self _)) _).low (p := ⟨w.heap.size, 1, none⟩) (Nat.lt_succ_of_lt (Nat.lt_succ_self _)) _).low (p := ⟨w.heap.size, 2, none⟩) (Nat.lt_succ_of_lt (Nat.lt_succ_self _)) _).low (p := ⟨w.heap.size + 1, 0, none⟩) (Nat.lt_succ_self _) _).low (p := ⟨w.heap.size + 1, 1, none⟩) (Nat.lt_succ_self _) _).low (p := ⟨w.heap.size + 1, 2, none⟩) (Nat.lt_succ_self _) _)).mono HB.out
        · exact (((((((P3.out.low (p := ⟨w.heap.size, 0, none⟩) (Nat.lt_succ_of_lt (Nat.lt_succ_self _)) _).low (p := ⟨w.heap.size, 1, none⟩) (Nat.lt_succ_of_lt (Nat.lt_succ_self _)) _).low (p := ⟨w.heap.size, 2, none⟩) (Nat.lt_succ_of_lt (Nat.lt_succ_self _)) _).low (p := ⟨w.heap.size + 1, 0, none⟩) (Nat.lt_succ_self _) _).low (p := ⟨w.heap.size + 1, 1, none⟩) (Nat.lt_succ_self _) _).low (p := ⟨w.heap.size + 1, 2, none⟩) (Nat.lt_succ_self _) _)).mono HB.out
        · exact (((((((P4.out.low (p := ⟨w.heap.size, 0, none⟩) (Nat.lt_succ_of_lt (Nat.lt_succ_self _)) _).low (p := ⟨w.heap.size, 1, none⟩) (Nat.lt_succ_of_lt (Nat.lt_succ_self _)) _).low (p := ⟨w.heap.size, 2, none⟩) (Nat.lt_succ_of_lt (Nat.lt_succ_self _)) _).low (p := ⟨w.heap.size + 1, 0, none⟩) (Nat.lt_succ_self _) _).low (p := ⟨w.heap.size + 1, 1, none⟩) (Nat.lt_succ_self _) _).low (p := ⟨w.heap.size + 1, 2, none⟩) (Nat.lt_succ_self _) _)).mono HB.out
        · exact (((((((D.out.set (p := ⟨w.heap.size, 0, none⟩) (Nat.le_refl _) _).set (p := ⟨w.heap.size, 1, none⟩) (Nat.le_refl _) _).set (p := ⟨w.heap.size, 2, none⟩) (Nat.le_refl _) _).set (p := ⟨w.heap.size + 1, 0, none⟩) (Nat.le_succ _) _).set (p := ⟨w.heap.size + 1, 1, none⟩) (Nat.le_succ _) _).set (p := ⟨w.heap.size + 1, 2, none⟩) (Nat.le_succ _) _)).S
        · exact (((((((D.out.set (p := ⟨w.heap.size, 0, none⟩) (Nat.le_refl _) _).set (p := ⟨w.heap.size, 1, none⟩) (Nat.le_refl _) _).set (p := ⟨w.heap.size, 2, none⟩) (Nat.le_refl _) _).set (p := ⟨w.heap.size + 1, 0, none⟩) (Nat.le_succ _) _).set (p := ⟨w.heap.size + 1, 1, none⟩) (Nat.le_succ _) _).set (p := ⟨w.heap.size + 1, 2, none⟩) (Nat.le_succ _) _)).gr
      · obtain ⟨ns, us, rfl, rfl, rfl, hr, hl, hb⟩ := mdOk_iff hok
        have h1 : MdN ns us := ⟨hr, hl, hb⟩
        have h8 := hr.1
        clear hok hr hb
        have e1 := li_length ns
        have e2 : (li us).length = 6 := by rw [li_length, hl]
        have hk : (qn ns us : Int) ≤ 1000 := by have := qn_le ns us h8; omega
        have q1 : (li (qrl (qcl ns us) ns (qn ns us) ns.length)).length ≤ 9 := by rw [li_length, qrl_length]; have := qn_le ns us h8; omega
        have q2 : (li (qvl (qcl ns us) us)).length ≤ 6 := by rw [li_length, qvl_length, hl]; omega
        have HC : Hid (∀ W, Mdl W (.slice A1 (li ns).length c1) (.slice A2 (li us).length c2) ns us → Calls Tryz.prog 41 #[.agg #[.int .i64 ns.length, .slice A1 (li ns).length c1, .slice A2 (li us).length c2]] W fun e w' => ∃ A c, e = .returned (.slice A ns.length c) ∧ Ow cI 2 W.heap.size w' (.slice A ns.length c) (li (qcl ns us)) ∧ Below W.heap.size W w') := Lib.hid (by
          intro W hW
          rw [e1, e2] at hW ⊢
          exact spec_l07Classes ns us A1 A2 c1 c2 W hW h1)
        have HQ : Hid (∀ A3 c3 W, Mdl W (.slice A1 (li ns).length c1) (.slice A2 (li us).length c2) ns us → Sl cI W (.slice A3 ns.length c3) (li (qcl ns us)) → Calls Tryz.prog 40 #[.agg #[.int .i64 ns.length, .slice A1 (li ns).length c1, .slice A2 (li us).length c2], .slice A3 ns.length c3] W fun e w' => ∃ u1 u2, e = .returned (.agg #[.int .i64 (qn ns us : Nat), u1, u2]) ∧ Ow cI 2 W.heap.size w' u1 (li (qrl (qcl ns us) ns (qn ns us) ns.length)) ∧ Ow cI 2 W.heap.size w' u2 (li (qvl (qcl ns us) us)) ∧ Below W.heap.size W w') := Lib.hid (by
          intro A3 c3 W hW hc
          rw [e1, e2] at hW ⊢
          exact spec_l07Quotient ns us (qcl ns us) (qn ns us) rfl A1 A2 A3 c1 c2 c3 W hW h1 hc (qcl_length ns us) (qcl_lt ns us h8))
        have E1 := Lib.hid e1
        have E2 := Lib.hid e2
        clear h1 h8 hl e1 e2
        go_upto_region 7 with fail
        have hb := (Below.refl w4.heap.size w4).drew
        replace P1 := Lib.hid (P1.out.below hb)
        replace P2 := Lib.hid (P2.out.below hb)
        replace R := Lib.hid (R.out.below hb R.out.lt)
        replace P := Lib.hid (P.out.below hb P.out.lt)
        replace M := Lib.hid (M.out.below hb M.out.lt)
        replace D := Lib.hid (D.out.below hb)
        clear hb
        have hI : (fun X : World => X.cell? ⟨mb, 0, none⟩ = some (.int .i64 ns.length) ∧ X.cell? ⟨mb, 1, none⟩ = some (.slice A1 (li ns).length c1) ∧ X.cell? ⟨mb, 2, none⟩ = some (.slice A2 (li us).length c2)) (World.drew w4) := ⟨M.out.cell 0, M.out.cell 1, M.out.cell 2⟩
        refine wp_region_sched (fun X => X.cell? ⟨mb, 0, none⟩ = some (.int .i64 ns.length) ∧ X.cell? ⟨mb, 1, none⟩ = some (.slice A1 (li ns).length c1) ∧ X.cell? ⟨mb, 2, none⟩ = some (.slice A2 (li us).length c2)) 5 [0, 1, 2] [0, 1, 2, 3, 4] (by kernel_rfl) (by kernel_rfl) hI ?_
        generalize World.drew w4 = w4d at *
        repeat
          apply wpSched_q rfl rfl
          case h =>
            intro w' hI K hK
            have cc0 : w'.cell? ⟨mb, 0, none⟩ = some (.int .i64 ns.length) := hI.1
            have cc1 : w'.cell? ⟨mb, 1, none⟩ = some (.slice A1 (li ns).length c1) := hI.2.1
            have cc2 : w'.cell? ⟨mb, 2, none⟩ = some (.slice A2 (li us).length c2) := hI.2.2
            simp only [quietV, stillV]
            go_simp
            exact hK
          go_simp
        refine wpSched_r rfl rfl ?_ hI
        intro K hK _
        go_simp
        refine (HC.out _ ⟨P1.out.1, P2.out.1⟩).mono ?_
        rintro e w6 ⟨A5, c5, rfl, O5, hb⟩
        replace P1 := Lib.hid (P1.out.below hb)
        replace P2 := Lib.hid (P2.out.below hb)
        replace R := Lib.hid (R.out.below hb R.out.lt)
        replace P := Lib.hid (P.out.below hb P.out.lt)
        replace M := Lib.hid (M.out.below hb M.out.lt)
        replace D := Lib.hid (D.out.below hb)
        clear hb
        replace O5 := Lib.hid O5
        clear hI
        have hI : (fun X : World => X.cell? ⟨mb, 0, none⟩ = some (.int .i64 ns.length) ∧ X.cell? ⟨mb, 1, none⟩ = some (.slice A1 (li ns).length c1) ∧ X.cell? ⟨mb, 2, none⟩ = some (.slice A2 (li us).length c2)) w6 := ⟨M.out.cell 0, M.out.cell 1, M.out.cell 2⟩
        refine hK _ _ hI ?_
        clear hK K
        repeat
          apply wpSched_q rfl rfl
          case h =>
            intro w' hI K hK
            simp only [quietV, stillV]
            go_simp
            exact hK
          go_simp
        refine wpSched_r rfl rfl ?_ hI
        intro K hK _
        go_simp
        refine (HQ.out A5 c5 _ ⟨P1.out.1, P2.out.1⟩ O5.out.sl).mono ?_
        rintro e w7 ⟨v1, v2, rfl, O3, O4, hb⟩
        have P3 := Lib.hid (O3.ro.mono P.out.lt)
        have P4 := Lib.hid (O4.ro.mono P.out.lt)
        replace P1 := Lib.hid (P1.out.below hb)
        replace P2 := Lib.hid (P2.out.below hb)
        replace R := Lib.hid (R.out.below hb R.out.lt)
        replace P := Lib.hid (P.out.below hb P.out.lt)
        replace M := Lib.hid (M.out.below hb M.out.lt)
        replace D := Lib.hid (D.out.below hb)
        clear hb
        clear O3 O4 O5
        clear hI
        have hI : (fun X : World => X.cell? ⟨mb, 0, none⟩ = some (.int .i64 ns.length) ∧ X.cell? ⟨mb, 1, none⟩ = some (.slice A1 (li ns).length c1) ∧ X.cell? ⟨mb, 2, none⟩ = some (.slice A2 (li us).length c2)) w7 := ⟨M.out.cell 0, M.out.cell 1, M.out.cell 2⟩
        refine hK _ _ hI ?_
        clear hK K
        repeat
          apply wpSched_q rfl rfl
          case h =>
            intro w' hI K hK
            simp only [quietV, stillV]
            go_simp
            exact hK
          go_simp
        refine wpSched_nil ?_
        try simp only [List.drop_succ_cons, List.drop_zero, List.drop_nil]
        clear hI
        generalize li (qrl (qcl ns us) ns (qn ns us) ns.length) = M1 at *
        generalize li (qvl (qcl ns us) us) = M2 at *
        generalize qn ns us = k at *
        clear HC HQ
        obtain ⟨A3, c3, rfl⟩ := P3.out.opn
        obtain ⟨A4, c4, rfl⟩ := P4.out.opn
        generalize li ns = L1 at *
        generalize li us = L2 at *
        clear E1 E2
        generalize (ns.length : Int) = n at *
        have kr := R.out.cell
        have fr := R.out.frozen
        have lr := R.out.lt
        have kp := P.out.cell
        have fp := P.out.frozen
        have lp := P.out.lt
        go_wp2
        refine bodyPost_ret (v := .tuple #[.agg #[.int .i64 n, .slice A1 L1.length c1, .slice A2 L2.length c2], .agg #[.int .i64 k, .slice A3 M1.length c3, .slice A4 M2.length c4]]) (by simp [results, Tryz.results114, go_sem, kr, fr, lr, kp, fp, lp]) rfl ⟨n, k, _, _, _, _, L1, L2, M1, M2, rfl, ⟨hn, hk, hL1, hL2, q1, q2⟩, ?_, ?_, ?_, ?_, ?_, ?_⟩
        · exact (((((((P1.out.low (p := ⟨w.heap.size, 0, none⟩) (Nat.lt_succ_of_lt (Nat.lt_succ_self _)) _).low (p := ⟨w.heap.size, 1, none⟩) (Nat.lt_succ_of_lt (Nat.lt_succ_self _)) _).low (p := ⟨w.heap.size, 2, none⟩) (Nat.lt_succ_of_lt (Nat.lt_succ_self _)) _).low (p := ⟨w.heap.size + 1, 0, none⟩) (Nat.lt_succ_self _) _).low (p := ⟨w.heap.size + 1, 1, none⟩) (Nat.lt_succ_self _) _).low (p := ⟨w.heap.size + 1, 2, none⟩) (Nat.lt_succ_self _) _)).mono HB.out
        · exact (((((((P2.out.low (p := ⟨w.heap.size, 0, none⟩) (Nat.lt_succ_of_lt (Nat.lt_succ_self _)) _).low (p := ⟨w.heap.size, 1, none⟩) (Nat.lt_succ_of_lt (Nat.lt_succ_self _)) _).low (p := ⟨w.heap.size, 2, none⟩) (Nat.lt_succ_of_lt (Nat.lt_succ_self _)) _).low (p := ⟨w.heap.size + 1, 0, none⟩) (Nat.lt_succ_self _) _).low (p := ⟨w.heap.size + 1, 1, none⟩) (Nat.lt_succ_self _) _).low (p := ⟨w.heap.size + 1, 2, none⟩) (Nat.lt_succ_self _) _)).mono HB.out
        · exact (((((((P3.out.low (p := ⟨w.heap.size, 0, none⟩) (Nat.lt_succ_of_lt (Nat.lt_succ_self _)) _).low (p := ⟨w.heap.size, 1, none⟩) (Nat.lt_succ_of_lt (Nat.lt_succ_self _)) _).low (p := ⟨w.heap.size, 2, none⟩) (Nat.lt_succ_of_lt (Nat.lt_succ_self _)) _).low (p := ⟨w.heap.size + 1, 0, none⟩) (Nat.lt_succ_self _) _).low (p := ⟨w.heap.size + 1, 1, none⟩) (Nat.lt_succ_self _) _).low (p := ⟨w.heap.size + 1, 2, none⟩) (Nat.lt_succ_self _) _)).mono HB.out
        · exact (((((((P4.out.low (p := ⟨w.heap.size, 0, none⟩) (Nat.lt_succ_of_lt (Nat.lt_succ_self _)) _).low (p := ⟨w.heap.size, 1, none⟩) (Nat.lt_succ_of_lt (Nat.lt_succ_self _)) _).low (p := ⟨w.heap.size, 2, none⟩) (Nat.lt_succ_of_lt (Nat.lt_succ_self _)) _).low (p := ⟨w.heap.size + 1, 0, none⟩) (Nat.lt_succ_self _) _).low (p := ⟨w.heap.size + 1, 1, none⟩) (Nat.lt_succ_self _) _).low (p := ⟨w.heap.size + 1, 2, none⟩) (Nat.lt_succ_self _) _)).mono HB.out
        · exact (((((((D.out.set (p := ⟨w.heap.size, 0, none⟩) (Nat.le_refl _) _).set (p := ⟨w.heap.size, 1, none⟩) (Nat.le_refl _) _).set (p := ⟨w.heap.size, 2, none⟩) (Nat.le_refl _) _).set (p := ⟨w.heap.size + 1, 0, none⟩) (Nat.le_succ _) _).set (p := ⟨w.heap.size + 1, 1, none⟩) (Nat.le_succ _) _).set (p := ⟨w.heap.size + 1, 2, none⟩) (Nat.le_succ _) _)).S
        · exact (((((((D.out.set (p := ⟨w.heap.size, 0, none⟩) (Nat.le_refl _) _).set (p := ⟨w.heap.size, 1, none⟩) (Nat.le_refl _) _).set (p := ⟨w.heap.size, 2, none⟩) (Nat.le_refl _) _).set (p := ⟨w.heap.size + 1, 0, none⟩) (Nat.le_succ _) _).set (p := ⟨w.heap.size + 1, 1, none⟩) (Nat.le_succ _) _).set (p := ⟨w.heap.size + 1, 2, none⟩) (Nat.le_succ _) _)).gr
  · clear hk0
    go_upto_region 4 with fail
    have hb := (Below.refl w2.heap.size w2).drew
    replace P1 := Lib.hid (P1.out.below hb)
    replace P2 := Lib.hid (P2.out.below hb)
    replace R := Lib.hid (R.out.below hb R.out.lt)
    replace P := Lib.hid (P.out.below hb P.out.lt)
    replace M := Lib.hid (M.out.below hb M.out.lt)
    replace D := Lib.hid (D.out.below hb)
    clear hb
    have hI : (fun X : World => X.cell? ⟨mb, 0, none⟩ = some (.int .i64 n) ∧ X.cell? ⟨mb, 1, none⟩ = some (.slice A1 L1.length c1) ∧ X.cell? ⟨mb, 2, none⟩ = some (.slice A2 L2.length c2)) (World.drew w2) := ⟨M.out.cell 0, M.out.cell 1, M.out.cell 2⟩
    refine wp_region_sched (fun X => X.cell? ⟨mb, 0, none⟩ = some (.int .i64 n) ∧ X.cell? ⟨mb, 1, none⟩ = some (.slice A1 L1.length c1) ∧ X.cell? ⟨mb, 2, none⟩ = some (.slice A2 L2.length c2)) 3 [0, 1] [0, 1, 2] (by kernel_rfl) (by kernel_rfl) hI ?_
    generalize World.drew w2 = w2d at *
    repeat
      apply wpSched_q rfl rfl
      case h =>
        intro w' hI K hK
        have cc0 : w'.cell? ⟨mb, 0, none⟩ = some (.int .i64 n) := hI.1
        have cc1 : w'.cell? ⟨mb, 1, none⟩ = some (.slice A1 L1.length c1) := hI.2.1
        have cc2 : w'.cell? ⟨mb, 2, none⟩ = some (.slice A2 L2.length c2) := hI.2.2
        simp only [quietV, stillV]
        go_simp
        exact hK
      go_simp
    refine wpSched_r rfl rfl ?_ hI
    intro K hK _
    go_simp
    have kr := R.out.cell
    have fr := R.out.frozen
    have lr := R.out.lt
    simp [kr, fr, lr, go_sem]
    refine hK _ _ ⟨(((M.out.far (p := ⟨w.heap.size, 0, none⟩) (Ne.symm NMb.out.1) _).far (p := ⟨w.heap.size, 1, none⟩) (Ne.symm NMb.out.1) _).far (p := ⟨w.heap.size, 2, none⟩) (Ne.symm NMb.out.1) _).cell 0, (((M.out.far (p := ⟨w.heap.size, 0, none⟩) (Ne.symm NMb.out.1) _).far (p := ⟨w.heap.size, 1, none⟩) (Ne.symm NMb.out.1) _).far (p := ⟨w.heap.size, 2, none⟩) (Ne.symm NMb.out.1) _).cell 1, (((M.out.far (p := ⟨w.heap.size, 0, none⟩) (Ne.symm NMb.out.1) _).far (p := ⟨w.heap.size, 1, none⟩) (Ne.symm NMb.out.1) _).far (p := ⟨w.heap.size, 2, none⟩) (Ne.symm NMb.out.1) _).cell 2⟩ ?_
    clear hK K kr fr lr
    refine wpSched_nil ?_
    try simp only [List.drop_succ_cons, List.drop_zero, List.drop_nil]
    clear hI
    have kr := R.out.cell
    have fr := R.out.frozen
    have lr := R.out.lt
    have kp := P.out.cell
    have fp := P.out.frozen
    have lp := P.out.lt
    go_wp2
    refine bodyPost_ret (v := .tuple #[.agg #[.int .i64 n, .slice A1 L1.length c1, .slice A2 L2.length c2], .agg #[.int .i64 n, .slice A1 L1.length c1, .slice A2 L2.length c2]]) (by simp [results, Tryz.results114, go_sem, kr, fr, lr, kp, fp, lp]) rfl ⟨n, n, _, _, _, _, L1, L2, L1, L2, rfl, ⟨hn, hn, hL1, hL2, hL1, hL2⟩, ?_, ?_, ?_, ?_, ?_, ?_⟩
    · exact (((((((P1.out.low (p := ⟨w.heap.size, 0, none⟩) (Nat.lt_succ_of_lt (Nat.lt_succ_self _)) _).low (p := ⟨w.heap.size, 1, none⟩) (Nat.lt_succ_of_lt (Nat.lt_succ_self _)) _).low (p := ⟨w.heap.size, 2, none⟩) (Nat.lt_succ_of_lt (Nat.lt_succ_self _)) _).low (p := ⟨w.heap.size + 1, 0, none⟩) (Nat.lt_succ_self _) _).low (p := ⟨w.heap.size + 1, 1, none⟩) (Nat.lt_succ_self _) _).low (p := ⟨w.heap.size + 1, 2, none⟩) (Nat.lt_succ_self _) _)).mono HB.out
    · exact (((((((P2.out.low (p := ⟨w.heap.size, 0, none⟩) (Nat.lt_succ_of_lt (Nat.lt_succ_self _)) _).low (p := ⟨w.heap.size, 1, none⟩) (Nat.lt_succ_of_lt (Nat.lt_succ_self _)) _).low (p := ⟨w.heap.size, 2, none⟩) (Nat.lt_succ_of_lt (Nat.lt_succ_self _)) _).low (p := ⟨w.heap.size + 1, 0, none⟩) (Nat.lt_succ_self _) _).low (p := ⟨w.heap.size + 1, 1, none⟩) (Nat.lt_succ_self _) _).low (p := ⟨w.heap.size + 1, 2, none⟩) (Nat.lt_succ_self _) _)).mono HB.out
    · exact (((((((P1.out.low (p := ⟨w.heap.size, 0, none⟩) (Nat.lt_succ_of_lt (Nat.lt_succ_self _)) _).low (p := ⟨w.heap.size, 1, none⟩) (Nat.lt_succ_of_lt (Nat.lt_succ_self _)) _).low (p := ⟨w.heap.size, 2, none⟩) (Nat.lt_succ_of_lt (Nat.lt_succ_self _)) _).low (p := ⟨w.heap.size + 1, 0, none⟩) (Nat.lt_succ_self _) _).low (p := ⟨w.heap.size + 1, 1, none⟩) (Nat.lt_succ_self _) _).low (p := ⟨w.heap.size + 1, 2, none⟩) (Nat.lt_succ_self _) _)).mono HB.out
    · exact (((((((P2.out.low (p := ⟨w.heap.size, 0, none⟩) (Nat.lt_succ_of_lt (Nat.lt_succ_self _)) _).low (p := ⟨w.heap.size, 1, none⟩) (Nat.lt_succ_of_lt (Nat.lt_succ_self _)) _).low (p := ⟨w.heap.size, 2, none⟩) (Nat.lt_succ_of_lt (Nat.lt_succ_self _)) _).low (p := ⟨w.heap.size + 1, 0, none⟩) (Nat.lt_succ_self _) _).low (p := ⟨w.heap.size + 1, 1, none⟩) (Nat.lt_succ_self _) _).low (p := ⟨w.heap.size + 1, 2, none⟩) (Nat.lt_succ_self _) _)).mono HB.out
    · exact (((((((D.out.set (p := ⟨w.heap.size, 0, none⟩) (Nat.le_refl _) _).set (p := ⟨w.heap.size, 1, none⟩) (Nat.le_refl _) _).set (p := ⟨w.heap.size, 2, none⟩) (Nat.le_refl _) _).set (p := ⟨w.heap.size + 1, 0, none⟩) (Nat.le_succ _) _).set (p := ⟨w.heap.size + 1, 1, none⟩) (Nat.le_succ _) _).set (p := ⟨w.heap.size + 1, 2, none⟩) (Nat.le_succ _) _)).S
    · exact (((((((D.out.set (p := ⟨w.heap.size, 0, none⟩) (Nat.le_refl _) _).set (p := ⟨w.heap.size, 1, none⟩) (Nat.le_refl _) _).set (p := ⟨w.heap.size, 2, none⟩) (Nat.le_refl _) _).set (p := ⟨w.heap.size + 1, 0, none⟩) (Nat.le_succ _) _).set (p := ⟨w.heap.size + 1, 1, none⟩) (Nat.le_succ _) _).set (p := ⟨w.heap.size + 1, 2, none⟩) (Nat.le_succ _) _)).gr
/- The reference's drawing for TellingFormula, by shape (written by program, gendr5.py). -/
set_option maxRecDepth 100000 in
set_option maxHeartbeats 4000000 in
theorem spec_l07At (v : Value) (xs : List (Fin 256)) (w : World) (h : Sl cY w v xs) (hl : xs.length ≤ 4096) :
    Calls Tryz.prog 55 #[v] w fun e w' => ∃ (n k x y : Int) (u1 u2 v1 v2 : Value) (L1 L2 M1 M2 : List Int), e = .returned (.tuple #[.agg #[.int .i64 n, u1, u2], .int .i64 x, .agg #[.int .i64 k, v1, v2], .int .i64 y]) ∧ (n ≤ 1000 ∧ k ≤ 1000 ∧ L1.length ≤ 9 ∧ L2.length ≤ 6 ∧ M1.length ≤ 9 ∧ M2.length ≤ 6) ∧ Ro cI w.heap.size w' u1 L1 ∧ Ro cI w.heap.size w' u2 L2 ∧ Ro cI w.heap.size w' v1 M1 ∧ Ro cI w.heap.size w' v2 M2 ∧ Below w.heap.size w w' := by
  have R0 := Blk.new w 28 #[.int .i64 0, .slice none 0 0, .slice none 0 0]
  have P0 := Blk.new' (w.alloc (.cells #[.int .i64 0, .slice none 0 0, .slice none 0 0] 28)) 28 #[.int .i64 0, .slice none 0 0, .slice none 0 0] (g := w.heap.size + 1) (by simp)
  have hb0 := below_alloc' w (.cells #[.int .i64 0, .slice none 0 0, .slice none 0 0] 28)
  have hb1 := below_alloc' (w.alloc (.cells #[.int .i64 0, .slice none 0 0, .slice none 0 0] 28)) (.cells #[.int .i64 0, .slice none 0 0, .slice none 0 0] 28)
  have R := Lib.hid (R0.below hb1 R0.lt)
  have P := Lib.hid P0
  have hb := bthen hb0 hb1
  have HB : Hid (w.heap.size ≤ w.heap.size + 2) := Lib.hid (by omega)
  have ZP : Hid (w.heap.size + 1 ≤ w.heap.size + 1) := Lib.hid (Nat.le_refl _)
  clear hb0 hb1 R0 P0
  have HH := Lib.hid (h.below hb)
  have HBW := Lib.hid hb
  clear h hb
  go_enter Tryz.func55, Tryz.ntmps55
  go_upto_region 1 with fail
  generalize World.alloc (World.alloc w _) _ = W at *
  clear HB ZP
  skip
  go_wp2_with fail
  refine (spec_l01From v xs W HH.out hl).mono ?_
  rintro e w1 ⟨rfl, hS, hb⟩
  have ZP : Hid (w.heap.size + 1 < W.heap.size) := Lib.hid P.out.lt
  replace R := Lib.hid (R.out.below hb R.out.lt)
  replace P := Lib.hid (P.out.below hb P.out.lt)
  have hbb := bthen HBW.out hb
  have D : Hid (Dw W v xs W.heap.size w w1) := Lib.hid ⟨hS, hbb, by have := ZP.out; omega⟩
  have ZG : Hid (W.heap.size < w1.heap.size) := Lib.hid hS.lt
  clear hS hb hbb HBW HH
  go_wp2_with fail
  refine (spec_l07Pair _ _ _ _ _ D.out.S).mono ?_
  rintro e w2 ⟨n, k, u1, u2, v1, v2, L1, L2, M1, M2, rfl, HBD, p1, p2, p3, p4, hS, hg⟩
  replace R := Lib.hid (D.out.blk R.out (by have := ZP.out; omega) hg)
  replace P := Lib.hid (D.out.blk P.out (by have := ZP.out; omega) hg)
  have ZS : Hid (w1.heap.size ≤ w2.heap.size) := Lib.hid hg.size
  replace D := Lib.hid (D.out.call hS hg)
  have P1 := Lib.hid p1
  have P2 := Lib.hid p2
  have P3 := Lib.hid p3
  have P4 := Lib.hid p4
  clear hS hg p1 p2 p3 p4
  replace HBD := Lib.hid HBD
  obtain ⟨A1, c1, rfl⟩ := P1.out.opn
  obtain ⟨A2, c2, rfl⟩ := P2.out.opn
  obtain ⟨A3, c3, rfl⟩ := P3.out.opn
  obtain ⟨A4, c4, rfl⟩ := P4.out.opn
  go_upto_region 3 with fail
  have hb0 := below_alloc' w2 (.cells #[.int .i64 n, .slice A1 L1.length c1, .slice A2 L2.length c2] 28)
  have hb1 := below_alloc' (w2.alloc (.cells #[.int .i64 n, .slice A1 L1.length c1, .slice A2 L2.length c2] 28)) (.cells #[.int .i64 k, .slice A3 M1.length c3, .slice A4 M2.length c4] 28)
  have M0 := Blk.new w2 28 #[.int .i64 n, .slice A1 L1.length c1, .slice A2 L2.length c2]
  have N0 := Blk.new' (w2.alloc (.cells #[.int .i64 n, .slice A1 L1.length c1, .slice A2 L2.length c2] 28)) 28 #[.int .i64 k, .slice A3 M1.length c3, .slice A4 M2.length c4] (g := w2.heap.size + 1) (by simp)
  have M := Lib.hid (M0.below hb1 M0.lt)
  have N := Lib.hid N0
  have hb := bthen hb0 hb1
  clear hb0 hb1 M0 N0
  replace P1 := Lib.hid (P1.out.below hb)
  replace P2 := Lib.hid (P2.out.below hb)
  replace P3 := Lib.hid (P3.out.below hb)
  replace P4 := Lib.hid (P4.out.below hb)
  replace R := Lib.hid (R.out.below hb R.out.lt)
  replace P := Lib.hid (P.out.below hb P.out.lt)
  replace D := Lib.hid (D.out.below hb)
  clear hb
  obtain ⟨mb, hmb⟩ : ∃ b, w2.heap.size = b := ⟨_, rfl⟩
  generalize World.alloc (World.alloc w2 _) _ = w3 at *
  rw [hmb] at M N ZS ⊢
  have ZM : Hid (W.heap.size < mb) := Lib.hid (by have := ZS.out; have := ZG.out; omega)
  clear hmb
  obtain ⟨hn, hk, hL1, hL2, hM1, hM2⟩ := HBD.out
  clear HBD
  go_upto_region 3 with fail
  have hb := (Below.refl w3.heap.size w3).drew
  replace P1 := Lib.hid (P1.out.below hb)
  replace P2 := Lib.hid (P2.out.below hb)
  replace P3 := Lib.hid (P3.out.below hb)
  replace P4 := Lib.hid (P4.out.below hb)
  replace R := Lib.hid (R.out.below hb R.out.lt)
  replace P := Lib.hid (P.out.below hb P.out.lt)
  replace M := Lib.hid (M.out.below hb M.out.lt)
  replace N := Lib.hid (N.out.below hb N.out.lt)
  replace D := Lib.hid (D.out.below hb)
  clear hb
  have hI : (fun X : World => X.cell? ⟨mb, 0, none⟩ = some (.int .i64 n) ∧ X.cell? ⟨mb, 1, none⟩ = some (.slice A1 L1.length c1) ∧ X.cell? ⟨mb, 2, none⟩ = some (.slice A2 L2.length c2) ∧ X.cell? ⟨mb + 1, 0, none⟩ = some (.int .i64 k) ∧ X.cell? ⟨mb + 1, 1, none⟩ = some (.slice A3 M1.length c3) ∧ X.cell? ⟨mb + 1, 2, none⟩ = some (.slice A4 M2.length c4)) (World.drew w3) := ⟨M.out.cell 0, M.out.cell 1, M.out.cell 2, N.out.cell 0, N.out.cell 1, N.out.cell 2⟩
  refine wp_region_sched (fun X => X.cell? ⟨mb, 0, none⟩ = some (.int .i64 n) ∧ X.cell? ⟨mb, 1, none⟩ = some (.slice A1 L1.length c1) ∧ X.cell? ⟨mb, 2, none⟩ = some (.slice A2 L2.length c2) ∧ X.cell? ⟨mb + 1, 0, none⟩ = some (.int .i64 k) ∧ X.cell? ⟨mb + 1, 1, none⟩ = some (.slice A3 M1.length c3) ∧ X.cell? ⟨mb + 1, 2, none⟩ = some (.slice A4 M2.length c4)) 14 [0, 1, 2, 3, 4, 6, 7, 8, 9, 10, 13] [0, 1, 2, 3, 4, 6, 7, 8, 9, 10, 5, 11, 12, 13] (by kernel_rfl) (by kernel_rfl) hI ?_
  generalize World.drew w3 = w3d at *
  repeat
    apply wpSched_q rfl rfl
    case h =>
      intro w' hI K hK
      have cc0 : w'.cell? ⟨mb, 0, none⟩ = some (.int .i64 n) := hI.1
      have cc1 : w'.cell? ⟨mb, 1, none⟩ = some (.slice A1 L1.length c1) := hI.2.1
      have cc2 : w'.cell? ⟨mb, 2, none⟩ = some (.slice A2 L2.length c2) := hI.2.2.1
      have cc3 : w'.cell? ⟨mb + 1, 0, none⟩ = some (.int .i64 k) := hI.2.2.2.1
      have cc4 : w'.cell? ⟨mb + 1, 1, none⟩ = some (.slice A3 M1.length c3) := hI.2.2.2.2.1
      have cc5 : w'.cell? ⟨mb + 1, 2, none⟩ = some (.slice A4 M2.length c4) := hI.2.2.2.2.2
      simp only [quietV, stillV]
      go_simp
      exact hK
    go_simp
  refine wpSched_r rfl rfl ?_ hI
  intro K hK _
  go_simp
  refine (spec_l01Number _ _ _ _ _ n D.out.S (by omega)).mono ?_
  rintro e w4 ⟨x, rfl, hS, hg⟩
  replace P1 := Lib.hid (D.out.passR P1.out ZG.out hg)
  replace P2 := Lib.hid (D.out.passR P2.out ZG.out hg)
  replace P3 := Lib.hid (D.out.passR P3.out ZG.out hg)
  replace P4 := Lib.hid (D.out.passR P4.out ZG.out hg)
  replace R := Lib.hid (D.out.blk R.out (by have := ZM.out; have := ZP.out; omega) hg)
  replace P := Lib.hid (D.out.blk P.out (by have := ZM.out; have := ZP.out; omega) hg)
  replace M := Lib.hid (D.out.blk M.out (by have := ZM.out; have := ZP.out; omega) hg)
  replace N := Lib.hid (D.out.blk N.out (by have := ZM.out; have := ZP.out; omega) hg)
  replace D := Lib.hid (D.out.call hS hg)
  clear hS hg
  clear hI
  have hI : (fun X : World => X.cell? ⟨mb, 0, none⟩ = some (.int .i64 n) ∧ X.cell? ⟨mb, 1, none⟩ = some (.slice A1 L1.length c1) ∧ X.cell? ⟨mb, 2, none⟩ = some (.slice A2 L2.length c2) ∧ X.cell? ⟨mb + 1, 0, none⟩ = some (.int .i64 k) ∧ X.cell? ⟨mb + 1, 1, none⟩ = some (.slice A3 M1.length c3) ∧ X.cell? ⟨mb + 1, 2, none⟩ = some (.slice A4 M2.length c4)) w4 := ⟨M.out.cell 0, M.out.cell 1, M.out.cell 2, N.out.cell 0, N.out.cell 1, N.out.cell 2⟩
  refine hK _ _ hI ?_
  clear hK K
  repeat
    apply wpSched_q rfl rfl
    case h =>
      intro w' hI K hK
      have cc0 : w'.cell? ⟨mb, 0, none⟩ = some (.int .i64 n) := hI.1
      have cc1 : w'.cell? ⟨mb, 1, none⟩ = some (.slice A1 L1.length c1) := hI.2.1
      have cc2 : w'.cell? ⟨mb, 2, none⟩ = some (.slice A2 L2.length c2) := hI.2.2.1
      have cc3 : w'.cell? ⟨mb + 1, 0, none⟩ = some (.int .i64 k) := hI.2.2.2.1
      have cc4 : w'.cell? ⟨mb + 1, 1, none⟩ = some (.slice A3 M1.length c3) := hI.2.2.2.2.1
      have cc5 : w'.cell? ⟨mb + 1, 2, none⟩ = some (.slice A4 M2.length c4) := hI.2.2.2.2.2
      simp only [quietV, stillV]
      go_simp
      exact hK
    go_simp
  refine wpSched_r rfl rfl ?_ hI
  intro K hK _
  go_simp
  refine (spec_l01Number _ _ _ _ _ k D.out.S (by omega)).mono ?_
  rintro e w5 ⟨y, rfl, hS, hg⟩
  replace P1 := Lib.hid (D.out.passR P1.out ZG.out hg)
  replace P2 := Lib.hid (D.out.passR P2.out ZG.out hg)
  replace P3 := Lib.hid (D.out.passR P3.out ZG.out hg)
  replace P4 := Lib.hid (D.out.passR P4.out ZG.out hg)
  replace R := Lib.hid (D.out.blk R.out (by have := ZM.out; have := ZP.out; omega) hg)
  replace P := Lib.hid (D.out.blk P.out (by have := ZM.out; have := ZP.out; omega) hg)
  replace M := Lib.hid (D.out.blk M.out (by have := ZM.out; have := ZP.out; omega) hg)
  replace N := Lib.hid (D.out.blk N.out (by have := ZM.out; have := ZP.out; omega) hg)
  replace D := Lib.hid (D.out.call hS hg)
  clear hS hg
  clear hI
  have hI : (fun X : World => X.cell? ⟨mb, 0, none⟩ = some (.int .i64 n) ∧ X.cell? ⟨mb, 1, none⟩ = some (.slice A1 L1.length c1) ∧ X.cell? ⟨mb, 2, none⟩ = some (.slice A2 L2.length c2) ∧ X.cell? ⟨mb + 1, 0, none⟩ = some (.int .i64 k) ∧ X.cell? ⟨mb + 1, 1, none⟩ = some (.slice A3 M1.length c3) ∧ X.cell? ⟨mb + 1, 2, none⟩ = some (.slice A4 M2.length c4)) w5 := ⟨M.out.cell 0, M.out.cell 1, M.out.cell 2, N.out.cell 0, N.out.cell 1, N.out.cell 2⟩
  refine hK _ _ hI ?_
  clear hK K
  repeat
    apply wpSched_q rfl rfl
    case h =>
      intro w' hI K hK
      have cc0 : w'.cell? ⟨mb, 0, none⟩ = some (.int .i64 n) := hI.1
      have cc1 : w'.cell? ⟨mb, 1, none⟩ = some (.slice A1 L1.length c1) := hI.2.1
      have cc2 : w'.cell? ⟨mb, 2, none⟩ = some (.slice A2 L2.length c2) := hI.2.2.1
      have cc3 : w'.cell? ⟨mb + 1, 0, none⟩ = some (.int .i64 k) := hI.2.2.2.1
      have cc4 : w'.cell? ⟨mb + 1, 1, none⟩ = some (.slice A3 M1.length c3) := hI.2.2.2.2.1
      have cc5 : w'.cell? ⟨mb + 1, 2, none⟩ = some (.slice A4 M2.length c4) := hI.2.2.2.2.2
      simp only [quietV, stillV]
      go_simp
      exact hK
    go_simp
  refine wpSched_r rfl rfl ?_ hI
  intro K hK _
  go_simp
  have kr := R.out.cell
  have fr := R.out.frozen
  have lr := R.out.lt
  simp [kr, fr, lr, go_sem]
  have ne0 : mb ≠ w.heap.size := by have := ZM.out; have := ZP.out; omega
  have ne1 : mb + 1 ≠ w.heap.size := by have := ZM.out; have := ZP.out; omega
  have hI2 : (fun X : World => X.cell? ⟨mb, 0, none⟩ = some (.int .i64 n) ∧ X.cell? ⟨mb, 1, none⟩ = some (.slice A1 L1.length c1) ∧ X.cell? ⟨mb, 2, none⟩ = some (.slice A2 L2.length c2) ∧ X.cell? ⟨mb + 1, 0, none⟩ = some (.int .i64 k) ∧ X.cell? ⟨mb + 1, 1, none⟩ = some (.slice A3 M1.length c3) ∧ X.cell? ⟨mb + 1, 2, none⟩ = some (.slice A4 M2.length c4)) (((w5.setCell ⟨w.heap.size, 0, none⟩ (.int .i64 n)).setCell ⟨w.heap.size, 1, none⟩ (.slice A1 L1.length c1)).setCell ⟨w.heap.size, 2, none⟩ (.slice A2 L2.length c2)) := ⟨(((M.out.far (p := ⟨w.heap.size, 0, none⟩) ne0 _).far (p := ⟨w.heap.size, 1, none⟩) ne0 _).far (p := ⟨w.heap.size, 2, none⟩) ne0 _).cell 0, (((M.out.far (p := ⟨w.heap.size, 0, none⟩) ne0 _).far (p := ⟨w.heap.size, 1, none⟩) ne0 _).far (p := ⟨w.heap.size, 2, none⟩) ne0 _).cell 1, (((M.out.far (p := ⟨w.heap.size, 0, none⟩) ne0 _).far (p := ⟨w.heap.size, 1, none⟩) ne0 _).far (p := ⟨w.heap.size, 2, none⟩) ne0 _).cell 2, (((N.out.far (p := ⟨w.heap.size, 0, none⟩) ne1 _).far (p := ⟨w.heap.size, 1, none⟩) ne1 _).far (p := ⟨w.heap.size, 2, none⟩) ne1 _).cell 0, (((N.out.far (p := ⟨w.heap.size, 0, none⟩) ne1 _).far (p := ⟨w.heap.size, 1, none⟩) ne1 _).far (p := ⟨w.heap.size, 2, none⟩) ne1 _).cell 1, (((N.out.far (p := ⟨w.heap.size, 0, none⟩) ne1 _).far (p := ⟨w.heap.size, 1, none⟩) ne1 _).far (p := ⟨w.heap.size, 2, none⟩) ne1 _).cell 2⟩
  refine hK _ _ hI2 ?_
  clear hK K kr fr lr hI
  repeat
    apply wpSched_q rfl rfl
    case h =>
      intro w' hI K hK
      have cc : True := trivial
      simp only [quietV, stillV]
      go_simp
      exact hK
    go_simp
  refine wpSched_nil ?_
  try simp only [List.drop_succ_cons, List.drop_zero, List.drop_nil]
  clear hI2 ne0 ne1
  have kr := R.out.cell
  have fr := R.out.frozen
  have lr := R.out.lt
  have kp := P.out.cell
  have fp := P.out.frozen
  have lp := P.out.lt
  go_wp2
  refine bodyPost_ret (v := .tuple #[.agg #[.int .i64 n, .slice A1 L1.length c1, .slice A2 L2.length c2], .int .i64 x, .agg #[.int .i64 k, .slice A3 M1.length c3, .slice A4 M2.length c4], .int .i64 y]) (by simp [results, Tryz.results55, go_sem, kr, fr, lr, kp, fp, lp]) rfl ⟨n, k, x, y, _, _, _, _, L1, L2, M1, M2, rfl, ⟨hn, hk, hL1, hL2, hM1, hM2⟩, ?_, ?_, ?_, ?_, ?_⟩
  all_goals (have z1 : w.heap.size < w1.heap.size := by have := ZP.out; have := ZG.out; omega)
  all_goals (have z2 : w.heap.size + 1 < w1.heap.size := by have := ZP.out; have := ZG.out; omega)
  · exact (((((((P1.out.low (p := ⟨w.heap.size, 0, none⟩) z1 _).low (p := ⟨w.heap.size, 1, none⟩) z1 _).low (p := ⟨w.heap.size, 2, none⟩) z1 _).low (p := ⟨w.heap.size + 1, 0, none⟩) z2 _).low (p := ⟨w.heap.size + 1, 1, none⟩) z2 _).low (p := ⟨w.heap.size + 1, 2, none⟩) z2 _)).mono (Nat.le_of_lt z1)
  · exact (((((((P2.out.low (p := ⟨w.heap.size, 0, none⟩) z1 _).low (p := ⟨w.heap.size, 1, none⟩) z1 _).low (p := ⟨w.heap.size, 2, none⟩) z1 _).low (p := ⟨w.heap.size + 1, 0, none⟩) z2 _).low (p := ⟨w.heap.size + 1, 1, none⟩) z2 _).low (p := ⟨w.heap.size + 1, 2, none⟩) z2 _)).mono (Nat.le_of_lt z1)
  · exact (((((((P3.out.low (p := ⟨w.heap.size, 0, none⟩) z1 _).low (p := ⟨w.heap.size, 1, none⟩) z1 _).low (p := ⟨w.heap.size, 2, none⟩) z1 _).low (p := ⟨w.heap.size + 1, 0, none⟩) z2 _).low (p := ⟨w.heap.size + 1, 1, none⟩) z2 _).low (p := ⟨w.heap.size + 1, 2, none⟩) z2 _)).mono (Nat.le_of_lt z1)
  · exact (((((((P4.out.low (p := ⟨w.heap.size, 0, none⟩) z1 _).low (p := ⟨w.heap.size, 1, none⟩) z1 _).low (p := ⟨w.heap.size, 2, none⟩) z1 _).low (p := ⟨w.heap.size + 1, 0, none⟩) z2 _).low (p := ⟨w.heap.size + 1, 1, none⟩) z2 _).low (p := ⟨w.heap.size + 1, 2, none⟩) z2 _)).mono (Nat.le_of_lt z1)
  · exact ((((((D.out.bel.setCell (p := ⟨w.heap.size, 0, none⟩) (Nat.le_refl _) _).setCell (p := ⟨w.heap.size, 1, none⟩) (Nat.le_refl _) _).setCell (p := ⟨w.heap.size, 2, none⟩) (Nat.le_refl _) _).setCell (p := ⟨w.heap.size + 1, 0, none⟩) (Nat.le_succ _) _).setCell (p := ⟨w.heap.size + 1, 1, none⟩) (Nat.le_succ _) _).setCell (p := ⟨w.heap.size + 1, 2, none⟩) (Nat.le_succ _) _)
set_option maxRecDepth 100000 in
set_option maxHeartbeats 4000000 in
theorem spec_DrawTellingFormula (v : Value) (xs : List (Fin 256)) (w : World) (h : Sl cY w v xs) (hl : xs.length ≤ 4096) :
    Calls Tryz.prog 20 #[v] w fun e w' => ∃ (n k x y : Int) (u1 u2 v1 v2 : Value) (L1 L2 M1 M2 : List Int), e = .returned (.tuple #[.agg #[.int .i64 n, u1, u2], .int .i64 x, .agg #[.int .i64 k, v1, v2], .int .i64 y]) ∧ (n ≤ 1000 ∧ k ≤ 1000 ∧ L1.length ≤ 9 ∧ L2.length ≤ 6 ∧ M1.length ≤ 9 ∧ M2.length ≤ 6) ∧ Sl cI w' u1 L1 ∧ Sl cI w' u2 L2 ∧ Sl cI w' v1 M1 ∧ Sl cI w' v2 M2 ∧ Below w.heap.size w w' := by
  have R0 := Blk.new w 28 #[.int .i64 0, .slice none 0 0, .slice none 0 0]
  have P0 := Blk.new' (w.alloc (.cells #[.int .i64 0, .slice none 0 0, .slice none 0 0] 28)) 28 #[.int .i64 0, .slice none 0 0, .slice none 0 0] (g := w.heap.size + 1) (by simp)
  have hb0 := below_alloc' w (.cells #[.int .i64 0, .slice none 0 0, .slice none 0 0] 28)
  have hb1 := below_alloc' (w.alloc (.cells #[.int .i64 0, .slice none 0 0, .slice none 0 0] 28)) (.cells #[.int .i64 0, .slice none 0 0, .slice none 0 0] 28)
  have R := Lib.hid (R0.below hb1 R0.lt)
  have P := Lib.hid P0
  have hb := bthen hb0 hb1
  have HB : Hid (w.heap.size ≤ w.heap.size + 2) := Lib.hid (by omega)
  have ZP : Hid (w.heap.size + 1 ≤ w.heap.size + 1) := Lib.hid (Nat.le_refl _)
  clear hb0 hb1 R0 P0
  have HH := Lib.hid (h.below hb)
  have HBW := Lib.hid hb
  clear h hb
  go_enter Tryz.func20, Tryz.ntmps20
  go_upto_region 1 with fail
  generalize World.alloc (World.alloc w _) _ = W at *
  clear HB ZP
  go_wp2_with fail
  refine (spec_l07At v xs W HH.out hl).mono ?_
  rintro e w1 ⟨n, k, x, y, u1, u2, v1, v2, L1, L2, M1, M2, rfl, HBD, p1, p2, p3, p4, hb⟩
  have ZP : Hid (w.heap.size + 1 < W.heap.size) := Lib.hid P.out.lt
  replace R := Lib.hid (R.out.below hb R.out.lt)
  replace P := Lib.hid (P.out.below hb P.out.lt)
  have hbb := Lib.hid (bthen HBW.out hb)
  clear hb HBW HH
  have P1 := Lib.hid p1
  have P2 := Lib.hid p2
  have P3 := Lib.hid p3
  have P4 := Lib.hid p4
  clear p1 p2 p3 p4
  obtain ⟨A1, c1, rfl⟩ := P1.out.opn
  obtain ⟨A2, c2, rfl⟩ := P2.out.opn
  obtain ⟨A3, c3, rfl⟩ := P3.out.opn
  obtain ⟨A4, c4, rfl⟩ := P4.out.opn
  have kr := R.out.cell
  have fr := R.out.frozen
  have lr := R.out.lt
  have kp := P.out.cell
  have fp := P.out.frozen
  have lp := P.out.lt
  go_wp2
  refine bodyPost_ret (v := .tuple #[.agg #[.int .i64 n, .slice A1 L1.length c1, .slice A2 L2.length c2], .int .i64 x, .agg #[.int .i64 k, .slice A3 M1.length c3, .slice A4 M2.length c4], .int .i64 y]) (by simp [results, Tryz.results20, go_sem, kr, fr, lr, kp, fp, lp]) rfl ⟨n, k, x, y, _, _, _, _, L1, L2, M1, M2, rfl, HBD, ?_, ?_, ?_, ?_, ?_⟩
  all_goals (have z1 : w.heap.size < W.heap.size := by have := ZP.out; omega)
  all_goals (have z2 : w.heap.size + 1 < W.heap.size := ZP.out)
  · exact (((((((P1.out.low (p := ⟨w.heap.size, 0, none⟩) z1 _).low (p := ⟨w.heap.size, 1, none⟩) z1 _).low (p := ⟨w.heap.size, 2, none⟩) z1 _).low (p := ⟨w.heap.size + 1, 0, none⟩) z2 _).low (p := ⟨w.heap.size + 1, 1, none⟩) z2 _).low (p := ⟨w.heap.size + 1, 2, none⟩) z2 _)).1
  · exact (((((((P2.out.low (p := ⟨w.heap.size, 0, none⟩) z1 _).low (p := ⟨w.heap.size, 1, none⟩) z1 _).low (p := ⟨w.heap.size, 2, none⟩) z1 _).low (p := ⟨w.heap.size + 1, 0, none⟩) z2 _).low (p := ⟨w.heap.size + 1, 1, none⟩) z2 _).low (p := ⟨w.heap.size + 1, 2, none⟩) z2 _)).1
  · exact (((((((P3.out.low (p := ⟨w.heap.size, 0, none⟩) z1 _).low (p := ⟨w.heap.size, 1, none⟩) z1 _).low (p := ⟨w.heap.size, 2, none⟩) z1 _).low (p := ⟨w.heap.size + 1, 0, none⟩) z2 _).low (p := ⟨w.heap.size + 1, 1, none⟩) z2 _).low (p := ⟨w.heap.size + 1, 2, none⟩) z2 _)).1
  · exact (((((((P4.out.low (p := ⟨w.heap.size, 0, none⟩) z1 _).low (p := ⟨w.heap.size, 1, none⟩) z1 _).low (p := ⟨w.heap.size, 2, none⟩) z1 _).low (p := ⟨w.heap.size + 1, 0, none⟩) z2 _).low (p := ⟨w.heap.size + 1, 1, none⟩) z2 _).low (p := ⟨w.heap.size + 1, 2, none⟩) z2 _)).1
  · exact ((((((hbb.out.setCell (p := ⟨w.heap.size, 0, none⟩) (Nat.le_refl _) _).setCell (p := ⟨w.heap.size, 1, none⟩) (Nat.le_refl _) _).setCell (p := ⟨w.heap.size, 2, none⟩) (Nat.le_refl _) _).setCell (p := ⟨w.heap.size + 1, 0, none⟩) (Nat.le_succ _) _).setCell (p := ⟨w.heap.size + 1, 1, none⟩) (Nat.le_succ _) _).setCell (p := ⟨w.heap.size + 1, 2, none⟩) (Nat.le_succ _) _)
end Go.Proofs.YtnolbgdbboiehaaGreat

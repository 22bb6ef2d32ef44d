/- The reference's drawing functions of models of chapter 7, by the shape of what they draw (written by program, gendr3.py). -/
import Derived.Test.YtnolbgdbboiehaaGreatDB
namespace Go.Proofs.YtnolbgdbboiehaaGreat
open Go.RowKit
set_option linter.unusedVariables false
set_option linter.unusedSimpArgs false
/-- something is being drawn by a law: the source lies in g, in memory of the drawing's own since w -/
structure Dw (w0 : World) (v : Value) (xs : List (Fin 256)) (g : Nat) (w X : World) : Prop where
  S : Src 104 w0 v xs X g
  bel : Below w.heap.size w X
  lo : w.heap.size ≤ g
section
variable {w0 : World} {v : Value} {xs : List (Fin 256)} {g : Nat} {w X Y : World} {α : Type} {K : Cod α} {e : TypeId} {u : Value} {L : List α} {B : Nat}
theorem Dw.below (d : Dw w0 v xs g w X) (hb : Below X.heap.size X Y) : Dw w0 v xs g w Y := ⟨d.S.below hb, d.bel.trans (hb.mono d.bel.size), d.lo⟩
theorem Dw.call (d : Dw w0 v xs g w X) (hS : Src 104 w0 v xs Y g) (hg : X.grownBy Y (some g)) : Dw w0 v xs g w Y :=
  ⟨hS, below_grown d.bel hg d.bel.size (fun k e => by injection e with e; have := d.lo; omega), d.lo⟩
theorem Dw.passR (d : Dw w0 v xs g w X) (h : Ro K B X u L) (hB : g < B) (hg : X.grownBy Y (some g)) : Ro K B Y u L :=
  ⟨h.1.grown hg (by
    cases hv : u.ownBlock with
    | none => exact .inl rfl
    | some k => exact .inr (fun e => by injection e; have := (h.2 k hv).1; omega)), fun k hk => ⟨(h.2 k hk).1, Nat.lt_of_lt_of_le (h.2 k hk).2 hg.size⟩⟩
theorem Dw.blk (d : Dw w0 v xs g w X) {b : Nat} {t : TypeId} {cs : Array Value} (h : Blk X b t cs) (hb : b ≠ g) (hg : X.grownBy Y (some g)) : Blk Y b t cs :=
  h.grown hg (fun e => by injection e; omega)
end
theorem spec_l01Next_zero (p : Value) (n : Int) (w : World) (h : n < 1) :
    Calls Tryz.prog 86 #[p, .int .i64 n] w fun e w' => e = .returned (.int .i64 0) ∧ w = w' := by
  go_enter Tryz.func86, Tryz.ntmps86
  go_wp2
  go_ret
  exact ⟨rfl, rfl⟩
set_option maxRecDepth 100000 in
theorem spec_l01Number (w0 : World) (v : Value) (xs : List (Fin 256)) (w : World) (g : Nat) (n : Int) (S : Src 104 w0 v xs w g) (hn : n ≤ 9223372036854775807) :
    Calls Tryz.prog 115 #[.pointer (some ⟨g, 0, none⟩), .int .i64 n] w fun e w' => ∃ x : Int, e = .returned (.int .i64 x) ∧ Src 104 w0 v xs w' g ∧ w.grownBy w' (some g) := by
  have HB : Hid (w.heap.size ≤ w.heap.size) := Lib.hid (Nat.le_refl _)
  have D := Lib.hid (Dg.start S)
  clear S
  go_enter Tryz.func115, Tryz.ntmps115
  go_wp2_with fail
  refine (spec_l01Next _ _ _ _ _ 40 D.out.S (by decide) (by decide)).mono ?_
  rintro e w1 ⟨k, rfl, hk, hS, hg, -⟩
  replace D := Lib.hid (D.out.call hS hg)
  clear hS hg
  cases t0 : ((k : Int) == 0)
  · clear hk
    by_cases h1 : 1 ≤ n
    · skip
      go_wp2_with fail
      refine (spec_l01Next _ _ _ _ _ n D.out.S h1 hn).mono ?_
      rintro e w2 ⟨k1, rfl, hk1, hS, hg, -⟩
      replace D := Lib.hid (D.out.call hS hg)
      clear hS hg
      go_wp2
      go_ret
      exact ⟨_, rfl, D.out.S, D.out.gr⟩
    · skip
      go_wp2_with fail
      refine (spec_l01Next_zero _ n _ (by omega)).mono ?_
      rintro e w7 ⟨rfl, rfl⟩
      go_wp2
      go_ret
      exact ⟨_, rfl, D.out.S, D.out.gr⟩
  · clear hk
    go_wp2_with fail
    have hb := below_alloc' w1 (.cells #[.int .i64 (-1), .int .i64 n, .int .i64 9223372036854775807, .int .i64 (-9223372036854775808)] 2)
    have OL : Hid (Ow cI 2 w1.heap.size (World.alloc w1 (.cells #[.int .i64 (-1), .int .i64 n, .int .i64 9223372036854775807, .int .i64 (-9223372036854775808)] 2)) (.slice (some ⟨w1.heap.size, 0, none⟩) 4 4) [(-1), n, 9223372036854775807, (-9223372036854775808)]) := Lib.hid (Ow.lit [(-1), n, 9223372036854775807, (-9223372036854775808)] rfl rfl (Nat.le_refl _))
    have hgl : g < w1.heap.size := D.out.S.lt
    replace D := Lib.hid (D.out.below hb)
    clear hb
    refine (spec_l01Pick _ _ _ _ _ _ [(-1), n, 9223372036854775807, (-9223372036854775808)] D.out.S OL.out.sl (.inr (fun e => by have eq : w1.heap.size = g := Option.some.inj e; omega)) (by simp) (by simp)).mono ?_
    rintro e w9 ⟨y, rfl, -, hS, hg, -⟩
    clear OL
    replace D := Lib.hid (D.out.call hS hg)
    clear hS hg
    go_wp2
    go_ret
    exact ⟨_, rfl, D.out.S, D.out.gr⟩
set_option maxRecDepth 100000 in
set_option maxHeartbeats 4000000 in
theorem spec_l07Model (w0 : World) (v : Value) (xs : List (Fin 256)) (w : World) (g : Nat) (S : Src 104 w0 v xs w g) :
    Calls Tryz.prog 35 #[.pointer (some ⟨g, 0, none⟩)] w fun e w' => ∃ (n : Int) (u1 u2 : Value) (L1 L2 : List Int), e = .returned (.agg #[.int .i64 n, u1, u2]) ∧ n ≤ 1000 ∧ L1.length ≤ 9 ∧ L2.length ≤ 6 ∧ Ro cI w.heap.size w' u1 L1 ∧ Ro cI w.heap.size w' u2 L2 ∧ Src 104 w0 v xs w' g ∧ w.grownBy w' (some g) := by
  have D := Lib.hid (Dg.start S)
  clear S
  go_enter Tryz.func35, Tryz.ntmps35
  have R0 := Blk.new w 28 #[.int .i64 0, .slice none 0 0, .slice none 0 0]
  have HB : Hid (w.heap.size ≤ w.heap.size + 1) := Lib.hid (Nat.le_succ _)
  go_upto_region 1 with fail
  have hb := below_alloc' w (.cells #[.int .i64 0, .slice none 0 0, .slice none 0 0] 28)
  have R := Lib.hid R0
  clear R0
  replace D := Lib.hid (D.out.below hb)
  clear hb
  generalize World.alloc w _ = W at *
  go_wp2_with fail
  refine (spec_l01Next _ _ _ _ _ 16 D.out.S (by decide) (by decide)).mono ?_
  rintro e w1 ⟨k, rfl, hk, hS, hg, -⟩
  replace R := Lib.hid (D.out.blk R.out (Nat.le_refl _) hg)
  replace D := Lib.hid (D.out.call hS hg)
  clear hS hg
  cases t0 : ((k : Int) == 0)
  · clear hk
    go_wp2_with fail
    refine (spec_l01Next _ _ _ _ _ 6 D.out.S (by decide) (by decide)).mono ?_
    rintro e w2 ⟨k1, rfl, hk1, hS, hg, -⟩
    replace R := Lib.hid (D.out.blk R.out (Nat.le_refl _) hg)
    replace D := Lib.hid (D.out.call hS hg)
    clear hS hg
    have hk6 : 1 + k1 ≤ 8 := by omega
    clear hk1
    go_wp2_with fail
    refine (show Calls Tryz.prog 88 #[.pointer (some ⟨g, 0, none⟩), .int .i64 (1 + (k1 : Int))] _ _ from spec_l06Some _ _ _ _ _ (1 + k1) D.out.S hk6).mono ?_
    rintro e w3 ⟨u1, u2, L1, L2, rfl, hL1, hL2, O1, O2, dj, hS, hg⟩
    replace O1 := Lib.hid (O1.mono (R.out.lt))
    replace O2 := Lib.hid (O2.mono (R.out.lt))
    replace R := Lib.hid (D.out.blk R.out (Nat.le_refl _) hg)
    replace D := Lib.hid (D.out.call hS hg)
    clear hS hg
    obtain ⟨A, c, rfl⟩ := O1.out.opn
    obtain ⟨g2, c2, rfl, hB2, hl2, -⟩ := O2.out.form (by omega)
    rw [hL2] at O2 dj ⊢
    have N1 := Lib.hid (O1.out.block)
    have N2 : Hid (w.heap.size + 1 ≤ g2) := Lib.hid hB2
    have DJ : Hid (∀ k, (Value.slice A L1.length c).ownBlock = some k → g2 ≠ k) := Lib.hid (fun k hk e => dj k hk (congrArg some e))
    clear dj
    go_upto_region 4 with fail
    have hb := below_alloc' w3 (.cells #[.int .i64 (L1.length : Int), .slice A L1.length c, .slice (some ⟨g2, 0, none⟩) 6 c2] 28)
    have M := Lib.hid (Blk.new w3 28 #[.int .i64 (L1.length : Int), .slice A L1.length c, .slice (some ⟨g2, 0, none⟩) 6 c2])
    have ZM : Hid (w.heap.size + 1 ≤ w3.heap.size) := Lib.hid R.out.lt
    replace O1 := Lib.hid (O1.out.below hb)
    replace O2 := Lib.hid (O2.out.below hb)
    replace R := Lib.hid (R.out.below hb R.out.lt)
    replace D := Lib.hid (D.out.below hb)
    clear hb
    obtain ⟨mb, hmb⟩ : ∃ b, w3.heap.size = b := ⟨_, rfl⟩
    generalize hW2 : World.alloc w3 _ = WM at *
    rw [hmb] at M ZM ⊢
    have M2 : Hid (g2 < mb) := Lib.hid (by omega)
    clear N1 hB2 hl2 hW2 hmb
    go_wp2
    go_loopw [4] (fun i wr => ∃ (j : Nat) (L : List Int), i = .int .i64 (j : Int) ∧ 2 ≤ j ∧ j ≤ 6 ∧ L.length = 6 ∧ Ow cI 2 (w.heap.size + 1) wr (.slice A L1.length c) L1 ∧ Ow cI 2 (w.heap.size + 1) wr (.slice (some ⟨g2, 0, none⟩) 6 c2) L ∧ Dg w0 v xs g w wr ∧ Blk wr w.heap.size 28 #[.int .i64 0, .slice none 0 0, .slice none 0 0] ∧ Blk wr mb 28 #[.int .i64 (L1.length : Int), .slice A L1.length c, .slice (some ⟨g2, 0, none⟩) 6 c2]) (fun i _ => 6 - (intOf i).toNat)
    case atStart => exact ⟨2, L2, rfl, by omega, by omega, hL2, O1.out, O2.out, D.out, R.out, M.out⟩
    case round =>
      clear O1 O2 D R M hL2 L2
      obtain ⟨j, L2, rfl, hj2, hj, hL2, O1, O2, D, R, M⟩ := hrel
      replace O1 := Lib.hid O1
      replace O2 := Lib.hid O2
      replace D := Lib.hid D
      replace R := Lib.hid R
      replace M := Lib.hid M
      by_cases h6 : j < 6
      · have km := M.out.cell
        have lm := M.out.lt
        obtain ⟨c2x, f2x, gB, gl⟩ := O2.out.at1 (j := j) rfl (by rw [hL2]; omega) rfl
        have O9 := Lib.hid (O2.out.set1 (j := j) (x := 0) (u := .int .i64 0) rfl rfl (by rw [hL2]; omega))
        have L9 : (L2.set j 0).length = 6 := by rw [List.length_set]; exact hL2
        have D9 := Lib.hid (D.out.set (p := ⟨g2, j, none⟩) (show w.heap.size ≤ g2 by omega) (.int .i64 0))
        have M9 := Lib.hid (M.out.far (p := ⟨g2, j, none⟩) (fun e => by have eq : mb = g2 := e; have := M2.out; omega) (.int .i64 0))
        have R9 := Lib.hid (R.out.far (p := ⟨g2, j, none⟩) (fun e => by have eq : w.heap.size = g2 := e; omega) (.int .i64 0))
        have P9 := Lib.hid (O1.out.far (p := ⟨g2, j, none⟩) (fun e => by exact DJ.out g2 e rfl) (.int .i64 0))
        clear O1 O2 D M R gB gl
        go_wp2
        exact ⟨⟨j + 1, L2.set j 0, by go_num, by omega, by omega, L9, P9.out, O9.out, D9.out, R9.out, M9.out⟩, by simp [intOf]; omega⟩
      · obtain rfl : j = 6 := by omega
        have km := M.out.cell
        have lm := M.out.lt
        go_wp2_with fail
        refine (spec_l01Next _ _ _ _ _ 2 D.out.S (by decide) (by decide)).mono ?_
        rintro e w4 ⟨k2, rfl, hk2, hS, hg, -⟩
        replace O1 := Lib.hid (D.out.passB O1.out HB.out hg)
        replace O2 := Lib.hid (D.out.passB O2.out HB.out hg)
        replace R := Lib.hid (D.out.blk R.out (Nat.le_refl _) hg)
        replace M := Lib.hid (D.out.blk M.out (Nat.le_of_succ_le ZM.out) hg)
        replace D := Lib.hid (D.out.call hS hg)
        clear hS hg
        clear km lm
        cases t2 : ((k2 : Int) == 0)
        · clear hk2
          have kr := R.out.cell
          have fr := R.out.frozen
          have lr := R.out.lt
          have km := M.out.cell
          have lm := M.out.lt
          go_wp2
          refine bodyPost_ret (v := .agg #[.int .i64 (L1.length : Int), .slice A L1.length c, .slice (some ⟨g2, 0, none⟩) 6 c2]) (by simp [results, Tryz.results35, go_sem, kr, fr, lr]) rfl ⟨_, _, _, L1, L2, rfl, by omega, by omega, by omega, ?_, ?_, ?_, ?_⟩
          · exact (((((O1.out.setBelow (p := ⟨w.heap.size, 0, none⟩) (Nat.lt_succ_self _) _).setBelow (p := ⟨w.heap.size, 1, none⟩) (Nat.lt_succ_self _) _).setBelow (p := ⟨w.heap.size, 2, none⟩) (Nat.lt_succ_self _) _)).mono HB.out).ro
          · exact (((((O2.out.setBelow (p := ⟨w.heap.size, 0, none⟩) (Nat.lt_succ_self _) _).setBelow (p := ⟨w.heap.size, 1, none⟩) (Nat.lt_succ_self _) _).setBelow (p := ⟨w.heap.size, 2, none⟩) (Nat.lt_succ_self _) _)).mono HB.out).ro
          · exact ((((D.out.set (p := ⟨w.heap.size, 0, none⟩) (Nat.le_refl _) _).set (p := ⟨w.heap.size, 1, none⟩) (Nat.le_refl _) _).set (p := ⟨w.heap.size, 2, none⟩) (Nat.le_refl _) _)).S
          · exact ((((D.out.set (p := ⟨w.heap.size, 0, none⟩) (Nat.le_refl _) _).set (p := ⟨w.heap.size, 1, none⟩) (Nat.le_refl _) _).set (p := ⟨w.heap.size, 2, none⟩) (Nat.le_refl _) _)).gr
        · clear hk2
          have km := M.out.cell
          have lm := M.out.lt
          obtain ⟨c2x, f2x, gB, gl⟩ := O2.out.at1 (j := 1) rfl (by rw [hL2]; omega) rfl
          have O9 := Lib.hid (O2.out.set1 (j := 1) (x := 0) (u := .int .i64 0) rfl rfl (by rw [hL2]; omega))
          have L9 : (L2.set 1 0).length = 6 := by rw [List.length_set]; exact hL2
          have D9 := Lib.hid (D.out.set (p := ⟨g2, 1, none⟩) (show w.heap.size ≤ g2 by omega) (.int .i64 0))
          have M9 := Lib.hid (M.out.far (p := ⟨g2, 1, none⟩) (fun e => by have eq : mb = g2 := e; have := M2.out; omega) (.int .i64 0))
          have R9 := Lib.hid (R.out.far (p := ⟨g2, 1, none⟩) (fun e => by have eq : w.heap.size = g2 := e; omega) (.int .i64 0))
          have P9 := Lib.hid (O1.out.far (p := ⟨g2, 1, none⟩) (fun e => by exact DJ.out g2 e rfl) (.int .i64 0))
          clear O1 O2 D M R gB gl
          have O1 := P9
          have O2 := O9
          have D := D9
          have M := M9
          have R := R9
          clear O9 D9 M9 R9 P9
          go_upto_region 10 with fail
          generalize World.setCell w4 _ _ = W9 at *
          clear km lm c2x f2x
          have kr := R.out.cell
          have fr := R.out.frozen
          have lr := R.out.lt
          have km := M.out.cell
          have lm := M.out.lt
          go_wp2
          refine bodyPost_ret (v := .agg #[.int .i64 (L1.length : Int), .slice A L1.length c, .slice (some ⟨g2, 0, none⟩) 6 c2]) (by simp [results, Tryz.results35, go_sem, kr, fr, lr]) rfl ⟨_, _, _, L1, (L2.set 1 0), rfl, by omega, by omega, by omega, ?_, ?_, ?_, ?_⟩
          · exact (((((O1.out.setBelow (p := ⟨w.heap.size, 0, none⟩) (Nat.lt_succ_self _) _).setBelow (p := ⟨w.heap.size, 1, none⟩) (Nat.lt_succ_self _) _).setBelow (p := ⟨w.heap.size, 2, none⟩) (Nat.lt_succ_self _) _)).mono HB.out).ro
          · exact (((((O2.out.setBelow (p := ⟨w.heap.size, 0, none⟩) (Nat.lt_succ_self _) _).setBelow (p := ⟨w.heap.size, 1, none⟩) (Nat.lt_succ_self _) _).setBelow (p := ⟨w.heap.size, 2, none⟩) (Nat.lt_succ_self _) _)).mono HB.out).ro
          · exact ((((D.out.set (p := ⟨w.heap.size, 0, none⟩) (Nat.le_refl _) _).set (p := ⟨w.heap.size, 1, none⟩) (Nat.le_refl _) _).set (p := ⟨w.heap.size, 2, none⟩) (Nat.le_refl _) _)).S
          · exact ((((D.out.set (p := ⟨w.heap.size, 0, none⟩) (Nat.le_refl _) _).set (p := ⟨w.heap.size, 1, none⟩) (Nat.le_refl _) _).set (p := ⟨w.heap.size, 2, none⟩) (Nat.le_refl _) _)).gr
  · clear hk
    go_wp2_with fail
    refine (show Calls Tryz.prog 87 #[.pointer (some ⟨g, 0, none⟩), .int .i64 6] _ _ from spec_l06Draw _ _ _ _ _ 6 D.out.S (by decide)).mono ?_
    rintro e w5 ⟨n, u1, u2, L1, L2, rfl, hnx, hL1, hL2, P1, P2, hS, hg⟩
    replace P1 := Lib.hid (P1.mono (R.out.lt))
    replace P2 := Lib.hid (P2.mono (R.out.lt))
    replace R := Lib.hid (D.out.blk R.out (Nat.le_refl _) hg)
    replace D := Lib.hid (D.out.call hS hg)
    clear hS hg
    obtain ⟨A1, c1, rfl⟩ := P1.out.opn
    obtain ⟨A2, c2, rfl⟩ := P2.out.opn
    have kr := R.out.cell
    have fr := R.out.frozen
    have lr := R.out.lt
    go_wp2
    refine bodyPost_ret (v := .agg #[.int .i64 n, .slice A1 L1.length c1, .slice A2 L2.length c2]) (by simp [results, Tryz.results35, go_sem, kr, fr, lr]) rfl ⟨_, _, _, L1, L2, rfl, hnx, hL1, hL2, ?_, ?_, ?_, ?_⟩
    · exact (((((P1.out.low (p := ⟨w.heap.size, 0, none⟩) (Nat.lt_succ_self _) _).low (p := ⟨w.heap.size, 1, none⟩) (Nat.lt_succ_self _) _).low (p := ⟨w.heap.size, 2, none⟩) (Nat.lt_succ_self _) _)).mono HB.out)
    · exact (((((P2.out.low (p := ⟨w.heap.size, 0, none⟩) (Nat.lt_succ_self _) _).low (p := ⟨w.heap.size, 1, none⟩) (Nat.lt_succ_self _) _).low (p := ⟨w.heap.size, 2, none⟩) (Nat.lt_succ_self _) _)).mono HB.out)
    · exact ((((D.out.set (p := ⟨w.heap.size, 0, none⟩) (Nat.le_refl _) _).set (p := ⟨w.heap.size, 1, none⟩) (Nat.le_refl _) _).set (p := ⟨w.heap.size, 2, none⟩) (Nat.le_refl _) _)).S
    · exact ((((D.out.set (p := ⟨w.heap.size, 0, none⟩) (Nat.le_refl _) _).set (p := ⟨w.heap.size, 1, none⟩) (Nat.le_refl _) _).set (p := ⟨w.heap.size, 2, none⟩) (Nat.le_refl _) _)).gr
set_option maxRecDepth 100000 in
set_option maxHeartbeats 4000000 in
theorem spec_DrawQuotientModel (v : Value) (xs : List (Fin 256)) (w : World) (h : Sl cY w v xs) (hl : xs.length ≤ 4096) :
    Calls Tryz.prog 7 #[v] w fun e w' => ∃ (n : Int) (u1 u2 : Value) (L1 L2 : List Int), e = .returned (.agg #[.int .i64 n, u1, u2]) ∧ n ≤ 1000 ∧ L1.length ≤ 9 ∧ L2.length ≤ 6 ∧ Sl cI w' u1 L1 ∧ Sl cI w' u2 L2 ∧ Below w.heap.size w w' := by
  have hb1 := below_alloc' w (.cells #[.int .i64 0, .slice none 0 0, .slice none 0 0] 28)
  have R := Lib.hid (Blk.new w 28 #[.int .i64 0, .slice none 0 0, .slice none 0 0])
  have HH := Lib.hid (h.below hb1)
  have HB := Lib.hid hb1
  clear hb1
  go_enter Tryz.func7, Tryz.ntmps7
  go_upto_region 1 with fail
  generalize World.alloc w _ = W at *
  go_wp2_with fail
  refine (spec_l01From v xs W HH.out hl).mono ?_
  rintro e w1 ⟨rfl, hS, hb⟩
  have ZR : Hid (w.heap.size < W.heap.size) := Lib.hid R.out.lt
  replace R := Lib.hid (R.out.below hb R.out.lt)
  have hbb := bthen HB.out hb
  have D : Hid (Dw W v xs W.heap.size w w1) := Lib.hid ⟨hS, hbb, Nat.le_of_lt ZR.out⟩
  have ZG : Hid (W.heap.size < w1.heap.size) := Lib.hid hS.lt
  clear hS hb hbb HB HH
  go_wp2_with fail
  refine (spec_l07Model _ _ _ _ _ D.out.S).mono ?_
  rintro e w2 ⟨n, u1, u2, L1, L2, rfl, hn, hL1, hL2, p1, p2, hS, hg⟩
  replace R := Lib.hid (D.out.blk R.out (by have := ZR.out; omega) hg)
  replace D := Lib.hid (D.out.call hS hg)
  have P1 := Lib.hid p1
  have P2 := Lib.hid p2
  have hlr : w.heap.size < w1.heap.size := by have := ZR.out; have := ZG.out; omega
  have HLR := Lib.hid hlr
  clear hS hg p1 p2 hlr
  obtain ⟨A1, c1, rfl⟩ := P1.out.opn
  obtain ⟨A2, c2, rfl⟩ := P2.out.opn
  have kr := R.out.cell
  have fr := R.out.frozen
  have lr := R.out.lt
  clear R
  go_wp2
  refine bodyPost_ret (v := .agg #[.int .i64 n, .slice A1 L1.length c1, .slice A2 L2.length c2]) (by simp [results, Tryz.results7, go_sem, kr, fr, lr]) rfl ⟨n, _, _, L1, L2, rfl, hn, hL1, hL2, ?_, ?_, ?_⟩
  · exact (((P1.out.low (p := ⟨w.heap.size, 0, none⟩) HLR.out _).low (p := ⟨w.heap.size, 1, none⟩) HLR.out _).low (p := ⟨w.heap.size, 2, none⟩) HLR.out _).1
  · exact (((P2.out.low (p := ⟨w.heap.size, 0, none⟩) HLR.out _).low (p := ⟨w.heap.size, 1, none⟩) HLR.out _).low (p := ⟨w.heap.size, 2, none⟩) HLR.out _).1
  · exact (((D.out.bel.setCell (p := ⟨w.heap.size, 0, none⟩) (Nat.le_refl _) _).setCell (p := ⟨w.heap.size, 1, none⟩) (Nat.le_refl _) _).setCell (p := ⟨w.heap.size, 2, none⟩) (Nat.le_refl _) _)
end Go.Proofs.YtnolbgdbboiehaaGreat

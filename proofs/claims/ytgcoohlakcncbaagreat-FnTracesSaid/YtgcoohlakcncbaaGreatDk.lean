/- The reference's drawing of letterless formulas, by shape (written by program, gendr12.py). -/
import Derived.Test.YtgcoohlakcncbaaGreatDA
namespace Go.Proofs.YtgcoohlakcncbaaGreat
open Go.RowKit
set_option linter.unusedVariables false
set_option linter.unusedSimpArgs false
theorem quo32 (size : Nat) (h : size ≤ 1000) : (size : Int).tdiv 2 = ((size / 2 : Nat) : Int) := by
  rw [Int.tdiv_eq_ediv_of_nonneg (by omega)]; omega
set_option maxRecDepth 100000 in
set_option maxHeartbeats 4000000 in
theorem spec_l32Some (k : Nat) (hk : k ≤ 1000) (w0 : World) (v : Value) (xs : List (Fin 256)) (g : Nat) : ∀ (size : Nat) (w : World), size ≤ k → Src 151 w0 v xs w g →
    Calls Tryz.prog 192 #[.pointer (some ⟨g, 0, none⟩), .int .i64 (size : Int)] w fun e w' => ∃ u L, e = .returned u ∧ 1 ≤ L.length ∧ (L.length ≤ 1 ∨ L.length ≤ 2 * size - 1) ∧ Ow cN 82 w.heap.size w' u L ∧ Src 151 w0 v xs w' g ∧ w.grownBy w' (some g) := by
  induction k with
  | zero =>
    intro size w hs2 S
    obtain rfl : size = 0 := by omega
    rw [show ((0 : Nat) : Int) = 0 from rfl]
    have D := Lib.hid (Dg.start S)
    clear S
    go_enter Tryz.func192, Tryz.ntmps192
    go_wp2_with fail
    refine (spec_l02False _).mono ?_
    rintro e w1 ⟨u, rfl, ho, hb⟩
    have O := Lib.hid (D.out.made ho)
    replace D := Lib.hid (D.out.below hb)
    clear ho hb
    go_wp2
    go_ret
    exact ⟨_, _, rfl, by simp, .inl (by simp), O.out, D.out.S, D.out.gr⟩
  | succ k ih =>
    have IH := Lib.hid (ih (by omega))
    clear ih
    intro size w hs2 S
    by_cases hs : size < 2
    · clear IH
      have hsi : (size : Int) < 2 := by omega
      have D := Lib.hid (Dg.start S)
      clear S
      go_enter Tryz.func192, Tryz.ntmps192
      go_wp2_with fail
      refine (spec_l02False _).mono ?_
      rintro e w1 ⟨u, rfl, ho, hb⟩
      have O := Lib.hid (D.out.made ho)
      replace D := Lib.hid (D.out.below hb)
      clear ho hb
      go_wp2
      go_ret
      exact ⟨_, _, rfl, by simp, .inl (by simp), O.out, D.out.S, D.out.gr⟩
    · have hsi : ¬ ((size : Int) < 2) := by omega
      have HQ := Lib.hid (quo32 size (by omega))
      have HC : Hid (((size - 1 : Nat) : Int) = (size : Int) - 1) := Lib.hid (by omega)
      have HC2 : Hid (((size - 2 : Nat) : Int) = (size : Int) - 2) := Lib.hid (by omega)
      have D := Lib.hid (Dg.start S)
      clear S
      go_enter Tryz.func192, Tryz.ntmps192
      go_wp2_with fail
      refine (spec_l01Next _ _ _ _ _ 6 D.out.S (by decide) (by decide)).mono ?_
      rintro e w2 ⟨k6, rfl, hk6, hS, hg, hz⟩
      replace D := Lib.hid (D.out.call hS hg)
      clear hS hg hz
      cases t0 : ((k6 : Int) == 0)
      · cases t1 : ((k6 : Int) == 1)
        · cases t2 : ((k6 : Int) == 2)
          · cases t3 : ((k6 : Int) == 3)
            · clear hk6
              go_wp2_with fail
              refine (spec_l01Next _ _ _ _ _ 2 D.out.S (by decide) (by decide)).mono ?_
              rintro e w3 ⟨k2, rfl, hk2, hS, hg, hz⟩
              replace D := Lib.hid (D.out.call hS hg)
              clear hS hg hz
              go_wp2_with fail
              refine ((show Calls Tryz.prog 192 #[.pointer (some ⟨g, 0, none⟩), .int .i64 ((size : Int) - 1)] _ _ from HC.out ▸ IH.out (size - 1) _ (by omega) D.out.S)).mono ?_
              rintro e w4 ⟨u1, L1, rfl, hl1, hl1', O1, hS, hg⟩
              replace O1 := Lib.hid (D.out.made O1)
              replace D := Lib.hid (D.out.call hS hg)
              clear hS hg
              have hl : L1.length + 1 ≤ 2 * size - 1 := by omega
              go_wp2_with fail
              refine (spec_l02Pre (5 + (k2 : Int)) _ L1 _ O1.out.sl (by omega)).mono ?_
              rintro e w5 ⟨u, rfl, ho, hb⟩
              have O := Lib.hid (D.out.made ho)
              replace O1 := Lib.hid (O1.out.below hb)
              replace D := Lib.hid (D.out.below hb)
              clear ho hb
              have HL := Lib.hid hl
              clear hl hl1 hl1'
              go_wp2
              go_ret
              exact ⟨_, _, rfl, by simp, .inr (by have := HL.out; simp; omega), O.out, D.out.S, D.out.gr⟩
            · clear hk6
              go_wp2_with fail
              refine ((show Calls Tryz.prog 192 #[.pointer (some ⟨g, 0, none⟩), .int .i64 ((size : Int) - 2)] _ _ from HC2.out ▸ IH.out (size - 2) _ (by omega) D.out.S)).mono ?_
              rintro e w6 ⟨u1, L1, rfl, hl1, hl1', O1, hS, hg⟩
              replace O1 := Lib.hid (D.out.made O1)
              replace D := Lib.hid (D.out.call hS hg)
              clear hS hg
              have hl : L1.length + 2 ≤ 2 * size - 1 := by omega
              go_wp2_with fail
              refine (spec_l02Not _ L1 _ O1.out.sl (by omega)).mono ?_
              rintro e w7 ⟨u, rfl, ho, hb⟩
              have O := Lib.hid (D.out.made ho)
              replace O1 := Lib.hid (O1.out.below hb)
              replace D := Lib.hid (D.out.below hb)
              clear ho hb
              have HL := Lib.hid hl
              clear hl hl1 hl1'
              go_wp2
              go_ret
              exact ⟨_, _, rfl, by simp, .inr (by have := HL.out; simp; omega), O.out, D.out.S, D.out.gr⟩
          · clear hk6
            go_wp2_with fail
            refine ((show Calls Tryz.prog 192 #[.pointer (some ⟨g, 0, none⟩), .int .i64 ((size : Int).tdiv 2)] _ _ from HQ.out ▸ IH.out (size / 2) _ (by omega) D.out.S)).mono ?_
            rintro e w8 ⟨u1, L1, rfl, hl1, hl1', O1, hS, hg⟩
            replace O1 := Lib.hid (D.out.made O1)
            replace D := Lib.hid (D.out.call hS hg)
            clear hS hg
            go_wp2_with fail
            refine ((show Calls Tryz.prog 192 #[.pointer (some ⟨g, 0, none⟩), .int .i64 ((size : Int).tdiv 2)] _ _ from HQ.out ▸ IH.out (size / 2) _ (by omega) D.out.S)).mono ?_
            rintro e w9 ⟨u2, L2, rfl, hl2, hl2', O2, hS, hg⟩
            replace O2 := Lib.hid (D.out.made O2)
            replace O1 := Lib.hid (D.out.pass O1.out hg)
            replace D := Lib.hid (D.out.call hS hg)
            clear hS hg
            have hl : L1.length + L2.length + 1 ≤ 2 * size - 1 := by omega
            go_wp2_with fail
            refine (spec_l02Pair 4 _ _ L1 L2 _ O1.out.sl O2.out.sl (by omega) (by omega)).mono ?_
            rintro e w10 ⟨u, rfl, ho, hb⟩
            have O := Lib.hid (D.out.made ho)
            replace O1 := Lib.hid (O1.out.below hb)
            replace O2 := Lib.hid (O2.out.below hb)
            replace D := Lib.hid (D.out.below hb)
            clear ho hb
            have HL := Lib.hid hl
            clear hl hl1 hl1' hl2 hl2'
            go_wp2
            go_ret
            exact ⟨_, _, rfl, by simp, .inr (by have := HL.out; simp; omega), O.out, D.out.S, D.out.gr⟩
        · clear hk6
          go_wp2_with fail
          refine ((show Calls Tryz.prog 192 #[.pointer (some ⟨g, 0, none⟩), .int .i64 ((size : Int).tdiv 2)] _ _ from HQ.out ▸ IH.out (size / 2) _ (by omega) D.out.S)).mono ?_
          rintro e w11 ⟨u1, L1, rfl, hl1, hl1', O1, hS, hg⟩
          replace O1 := Lib.hid (D.out.made O1)
          replace D := Lib.hid (D.out.call hS hg)
          clear hS hg
          go_wp2_with fail
          refine ((show Calls Tryz.prog 192 #[.pointer (some ⟨g, 0, none⟩), .int .i64 ((size : Int).tdiv 2)] _ _ from HQ.out ▸ IH.out (size / 2) _ (by omega) D.out.S)).mono ?_
          rintro e w12 ⟨u2, L2, rfl, hl2, hl2', O2, hS, hg⟩
          replace O2 := Lib.hid (D.out.made O2)
          replace O1 := Lib.hid (D.out.pass O1.out hg)
          replace D := Lib.hid (D.out.call hS hg)
          clear hS hg
          have hl : L1.length + L2.length + 1 ≤ 2 * size - 1 := by omega
          go_wp2_with fail
          refine (spec_l02Pair 3 _ _ L1 L2 _ O1.out.sl O2.out.sl (by omega) (by omega)).mono ?_
          rintro e w13 ⟨u, rfl, ho, hb⟩
          have O := Lib.hid (D.out.made ho)
          replace O1 := Lib.hid (O1.out.below hb)
          replace O2 := Lib.hid (O2.out.below hb)
          replace D := Lib.hid (D.out.below hb)
          clear ho hb
          have HL := Lib.hid hl
          clear hl hl1 hl1' hl2 hl2'
          go_wp2
          go_ret
          exact ⟨_, _, rfl, by simp, .inr (by have := HL.out; simp; omega), O.out, D.out.S, D.out.gr⟩
      · clear hk6
        go_wp2_with fail
        refine ((show Calls Tryz.prog 192 #[.pointer (some ⟨g, 0, none⟩), .int .i64 ((size : Int).tdiv 2)] _ _ from HQ.out ▸ IH.out (size / 2) _ (by omega) D.out.S)).mono ?_
        rintro e w14 ⟨u1, L1, rfl, hl1, hl1', O1, hS, hg⟩
        replace O1 := Lib.hid (D.out.made O1)
        replace D := Lib.hid (D.out.call hS hg)
        clear hS hg
        go_wp2_with fail
        refine ((show Calls Tryz.prog 192 #[.pointer (some ⟨g, 0, none⟩), .int .i64 ((size : Int).tdiv 2)] _ _ from HQ.out ▸ IH.out (size / 2) _ (by omega) D.out.S)).mono ?_
        rintro e w15 ⟨u2, L2, rfl, hl2, hl2', O2, hS, hg⟩
        replace O2 := Lib.hid (D.out.made O2)
        replace O1 := Lib.hid (D.out.pass O1.out hg)
        replace D := Lib.hid (D.out.call hS hg)
        clear hS hg
        have hl : L1.length + L2.length + 1 ≤ 2 * size - 1 := by omega
        go_wp2_with fail
        refine (spec_l02Pair 2 _ _ L1 L2 _ O1.out.sl O2.out.sl (by omega) (by omega)).mono ?_
        rintro e w16 ⟨u, rfl, ho, hb⟩
        have O := Lib.hid (D.out.made ho)
        replace O1 := Lib.hid (O1.out.below hb)
        replace O2 := Lib.hid (O2.out.below hb)
        replace D := Lib.hid (D.out.below hb)
        clear ho hb
        have HL := Lib.hid hl
        clear hl hl1 hl1' hl2 hl2'
        go_wp2
        go_ret
        exact ⟨_, _, rfl, by simp, .inr (by have := HL.out; simp; omega), O.out, D.out.S, D.out.gr⟩
set_option maxRecDepth 100000 in
set_option maxHeartbeats 4000000 in
theorem spec_l32Draw (w0 : World) (v : Value) (xs : List (Fin 256)) (w : World) (g : Nat) (S : Src 151 w0 v xs w g) :
    Calls Tryz.prog 113 #[.pointer (some ⟨g, 0, none⟩)] w fun e w' => ∃ (u : Value) (L : List Nd), e = .returned u ∧ L.length ≤ 1001 ∧ Ow cN 82 w.heap.size w' u L ∧ Src 151 w0 v xs w' g ∧ w.grownBy w' (some g) := by
  have D := Lib.hid (Dg.start S)
  clear S
  go_enter Tryz.func113, Tryz.ntmps113
  go_wp2_with fail
  refine (spec_l01Next _ _ _ _ _ 20 D.out.S (by decide) (by decide)).mono ?_
  rintro e w1 ⟨k, rfl, hk, hS, hg, hz⟩
  replace D := Lib.hid (D.out.call hS hg)
  clear hS hg hz
  cases t0 : ((k : Int) == 0)
  · cases t1 : ((k : Int) == 1)
    · clear hk
      go_wp2_with fail
      refine (spec_l01Next _ _ _ _ _ 20 D.out.S (by decide) (by decide)).mono ?_
      rintro e w2 ⟨k2, rfl, hk2, hS, hg, hz⟩
      replace D := Lib.hid (D.out.call hS hg)
      clear hS hg hz
      have hk3 : 1 + k2 ≤ 30 := by omega
      clear hk2
      go_wp2_with fail
      refine ((show Calls Tryz.prog 192 #[.pointer (some ⟨g, 0, none⟩), .int .i64 (1 + (k2 : Int))] _ _ from spec_l32Some 30 (by omega) _ _ _ _ (1 + k2) _ hk3 D.out.S)).mono ?_
      rintro e w3 ⟨u, L, rfl, hl1, hl2, O, hS, hg⟩
      replace O := Lib.hid (D.out.made O)
      replace D := Lib.hid (D.out.call hS hg)
      clear hS hg
      go_wp2
      go_ret
      exact ⟨_, _, rfl, by omega, O.out, D.out.S, D.out.gr⟩
    · clear hk
      go_wp2_with fail
      refine ((show Calls Tryz.prog 192 #[.pointer (some ⟨g, 0, none⟩), .int .i64 8] _ _ from spec_l32Some 30 (by omega) _ _ _ _ 8 _ (by omega) D.out.S)).mono ?_
      rintro e w4 ⟨u1, L1, rfl, hl1, hl2, O1, hS, hg⟩
      replace O1 := Lib.hid (D.out.made O1)
      replace D := Lib.hid (D.out.call hS hg)
      clear hS hg
      go_wp2_with fail
      refine (spec_l02Bend _ _ _ _ _ _ L1 D.out.S O1.out.sl (by omega) (by omega)).mono ?_
      rintro e w5 ⟨u, L, rfl, hl, O, hS, hg⟩
      replace O := Lib.hid (D.out.made O)
      replace O1 := Lib.hid (D.out.pass O1.out hg)
      replace D := Lib.hid (D.out.call hS hg)
      clear hS hg
      go_wp2
      go_ret
      exact ⟨_, _, rfl, by omega, O.out, D.out.S, D.out.gr⟩
  · clear hk
    go_wp2_with fail
    refine (spec_l02Any _ _ _ _ _ 8 2 true D.out.S (by decide) (by decide) (by decide) (by decide)).mono ?_
    rintro e w6 ⟨u, L, rfl, hl, O, hS, hg⟩
    replace O := Lib.hid (D.out.made O)
    replace D := Lib.hid (D.out.call hS hg)
    clear hS hg
    go_wp2
    go_ret
    exact ⟨_, _, rfl, by omega, O.out, D.out.S, D.out.gr⟩
set_option maxRecDepth 100000 in
theorem spec_DrawTraceOf (v : Value) (xs : List (Fin 256)) (w : World) (h : Sl cY w v xs) (hl : xs.length ≤ 4096) :
    Calls Tryz.prog 40 #[v] w fun e w' => ∃ (u : Value) (L : List Nd), e = .returned u ∧ L.length ≤ 1001 ∧ Sl cN w' u L ∧ Below w.heap.size w w' := by
  go_enter Tryz.func40, Tryz.ntmps40
  go_wp2_with fail
  refine (spec_l01From v xs w h hl).mono ?_
  rintro e w1 ⟨rfl, hS, hb⟩
  have HB := Lib.hid hb
  go_wp2_with fail
  refine (spec_l32Draw _ v xs w1 _ hS).mono ?_
  rintro e w2 ⟨u, L, rfl, hL, ho, hS2, hg⟩
  have HS := Lib.hid ho.sl
  have HB2 := Lib.hid (below_grown HB.out hg hb.size (fun k e => by injection e with e; omega))
  have hL := Lib.hid hL
  obtain ⟨A, c, rfl⟩ := HS.out.opn
  clear ho hS2 hg hS hb
  go_wp2
  go_ret
  exact ⟨_, L, rfl, hL.out, HS.out, HB2.out⟩
end Go.Proofs.YtgcoohlakcncbaaGreat

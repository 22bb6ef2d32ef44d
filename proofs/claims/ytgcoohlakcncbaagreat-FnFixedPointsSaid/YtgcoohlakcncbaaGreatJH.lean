/- Joined of several texts: Di, Dj. -/
import Derived.Test.YtgcoohlakcncbaaGreatDA
namespace Go.Proofs.YtgcoohlakcncbaaGreat
open Go.RowKit
set_option linter.unusedVariables false
set_option linter.unusedSimpArgs false
/- The reference's drawing of guarded formulas, by shape, at any number of other variables (written by program, gendr11.py). -/
theorem quo2 (size : Nat) (h : size ≤ 1000) : (size : Int).tdiv 2 = ((size / 2 : Nat) : Int) := by
  rw [Int.tdiv_eq_ediv_of_nonneg (by omega)]; omega
set_option maxRecDepth 100000 in
set_option maxHeartbeats 4000000 in
theorem spec_l33Guardedly (o : Nat) (ho : o ≤ 1000) (k : Nat) (hk : k ≤ 1000) (w0 : World) (v : Value) (xs : List (Fin 256)) (g : Nat) : ∀ (inn : Bool) (size : Nat) (w : World), 1 ≤ size → size ≤ k → Src 151 w0 v xs w g →
    Calls Tryz.prog 143 #[.pointer (some ⟨g, 0, none⟩), .int .i64 (size : Int), .int .i64 (o : Int), .bool inn] w fun e w' => ∃ u L, e = .returned u ∧ 1 ≤ L.length ∧ L.length ≤ 4 * size - 1 ∧ Ow cN 82 w.heap.size w' u L ∧ Src 151 w0 v xs w' g ∧ w.grownBy w' (some g) := by
  induction k with
  | zero =>
    intro inn size w hs1 hs2 S
    omega
  | succ k ih =>
    have IH := Lib.hid (ih (by omega))
    clear ih
    intro inn size w hs1 hs2 S
    by_cases hs : size < 2
    · clear IH
      obtain rfl : size = 1 := by omega
      rw [show ((1 : Nat) : Int) = 1 from rfl]
      have D := Lib.hid (Dg.start S)
      clear S
      go_enter Tryz.func143, Tryz.ntmps143
      cases inn
      · skip
        rcases Nat.eq_zero_or_pos o with rfl | ho1
        · skip
          go_wp2_with fail
          refine (spec_l01Next _ _ _ _ _ 3 D.out.S (by decide) (by decide)).mono ?_
          rintro e w1 ⟨k3, rfl, hk3, hS, hg, hz⟩
          replace D := Lib.hid (D.out.call hS hg)
          clear hS hg hz
          cases h3 : ((k3 : Int) == 0)
          · clear hk3
            go_wp2_with fail
            refine (spec_l02False _).mono ?_
            rintro e w2 ⟨u, rfl, ho, hb⟩
            have O := Lib.hid (D.out.made ho)
            replace D := Lib.hid (D.out.below hb)
            clear ho hb
            go_wp2
            go_ret
            exact ⟨_, _, rfl, by simp, by simp, O.out, D.out.S, D.out.gr⟩
          · clear hk3
            go_wp2_with fail
            refine (spec_l02True _).mono ?_
            rintro e w3 ⟨u, rfl, ho, hb⟩
            have O := Lib.hid (D.out.made ho)
            replace D := Lib.hid (D.out.below hb)
            clear ho hb
            go_wp2
            go_ret
            exact ⟨_, _, rfl, by simp, by simp, O.out, D.out.S, D.out.gr⟩
        · have hoi : (0 : Int) < (o : Int) := by omega
          go_wp2_with fail
          refine (spec_l01Next _ _ _ _ _ 2 D.out.S (by decide) (by decide)).mono ?_
          rintro e w4 ⟨k2, rfl, hk2, hS, hg, hz⟩
          replace D := Lib.hid (D.out.call hS hg)
          clear hS hg hz
          cases h2 : ((k2 : Int) == 0)
          · clear hk2
            go_wp2_with fail
            refine (spec_l01Next _ _ _ _ _ 3 D.out.S (by decide) (by decide)).mono ?_
            rintro e w5 ⟨k3, rfl, hk3, hS, hg, hz⟩
            replace D := Lib.hid (D.out.call hS hg)
            clear hS hg hz
            cases h3 : ((k3 : Int) == 0)
            · clear hk3
              go_wp2_with fail
              refine (spec_l02False _).mono ?_
              rintro e w6 ⟨u, rfl, ho, hb⟩
              have O := Lib.hid (D.out.made ho)
              replace D := Lib.hid (D.out.below hb)
              clear ho hb
              go_wp2
              go_ret
              exact ⟨_, _, rfl, by simp, by simp, O.out, D.out.S, D.out.gr⟩
            · clear hk3
              go_wp2_with fail
              refine (spec_l02True _).mono ?_
              rintro e w7 ⟨u, rfl, ho, hb⟩
              have O := Lib.hid (D.out.made ho)
              replace D := Lib.hid (D.out.below hb)
              clear ho hb
              go_wp2
              go_ret
              exact ⟨_, _, rfl, by simp, by simp, O.out, D.out.S, D.out.gr⟩
          · clear hk2
            go_wp2_with fail
            refine (spec_l01Next _ _ _ _ _ (o : Int) D.out.S (by omega) (by omega)).mono ?_
            rintro e w8 ⟨kv, rfl, hkv, hS, hg, hz⟩
            replace D := Lib.hid (D.out.call hS hg)
            clear hS hg hz
            have hkv2 : kv < 1000 := by omega
            go_wp2_with fail
            refine (spec_l02Var (1 + (kv : Int)) _).mono ?_
            rintro e w9 ⟨u, rfl, ho, hb⟩
            have O := Lib.hid (D.out.made ho)
            replace D := Lib.hid (D.out.below hb)
            clear ho hb
            go_wp2
            go_ret
            exact ⟨_, _, rfl, by simp, by simp, O.out, D.out.S, D.out.gr⟩
      · skip
        go_wp2_with fail
        refine (spec_l01Next _ _ _ _ _ 2 D.out.S (by decide) (by decide)).mono ?_
        rintro e w10 ⟨k1, rfl, hk1, hS, hg, hz⟩
        replace D := Lib.hid (D.out.call hS hg)
        clear hS hg hz
        cases h1 : ((k1 : Int) == 0)
        · clear hk1
          rcases Nat.eq_zero_or_pos o with rfl | ho1
          · skip
            go_wp2_with fail
            refine (spec_l01Next _ _ _ _ _ 3 D.out.S (by decide) (by decide)).mono ?_
            rintro e w11 ⟨k3, rfl, hk3, hS, hg, hz⟩
            replace D := Lib.hid (D.out.call hS hg)
            clear hS hg hz
            cases h3 : ((k3 : Int) == 0)
            · clear hk3
              go_wp2_with fail
              refine (spec_l02False _).mono ?_
              rintro e w12 ⟨u, rfl, ho, hb⟩
              have O := Lib.hid (D.out.made ho)
              replace D := Lib.hid (D.out.below hb)
              clear ho hb
              go_wp2
              go_ret
              exact ⟨_, _, rfl, by simp, by simp, O.out, D.out.S, D.out.gr⟩
            · clear hk3
              go_wp2_with fail
              refine (spec_l02True _).mono ?_
              rintro e w13 ⟨u, rfl, ho, hb⟩
              have O := Lib.hid (D.out.made ho)
              replace D := Lib.hid (D.out.below hb)
              clear ho hb
              go_wp2
              go_ret
              exact ⟨_, _, rfl, by simp, by simp, O.out, D.out.S, D.out.gr⟩
          · have hoi : (0 : Int) < (o : Int) := by omega
            go_wp2_with fail
            refine (spec_l01Next _ _ _ _ _ 2 D.out.S (by decide) (by decide)).mono ?_
            rintro e w14 ⟨k2, rfl, hk2, hS, hg, hz⟩
            replace D := Lib.hid (D.out.call hS hg)
            clear hS hg hz
            cases h2 : ((k2 : Int) == 0)
            · clear hk2
              go_wp2_with fail
              refine (spec_l01Next _ _ _ _ _ 3 D.out.S (by decide) (by decide)).mono ?_
              rintro e w15 ⟨k3, rfl, hk3, hS, hg, hz⟩
              replace D := Lib.hid (D.out.call hS hg)
              clear hS hg hz
              cases h3 : ((k3 : Int) == 0)
              · clear hk3
                go_wp2_with fail
                refine (spec_l02False _).mono ?_
                rintro e w16 ⟨u, rfl, ho, hb⟩
                have O := Lib.hid (D.out.made ho)
                replace D := Lib.hid (D.out.below hb)
                clear ho hb
                go_wp2
                go_ret
                exact ⟨_, _, rfl, by simp, by simp, O.out, D.out.S, D.out.gr⟩
              · clear hk3
                go_wp2_with fail
                refine (spec_l02True _).mono ?_
                rintro e w17 ⟨u, rfl, ho, hb⟩
                have O := Lib.hid (D.out.made ho)
                replace D := Lib.hid (D.out.below hb)
                clear ho hb
                go_wp2
                go_ret
                exact ⟨_, _, rfl, by simp, by simp, O.out, D.out.S, D.out.gr⟩
            · clear hk2
              go_wp2_with fail
              refine (spec_l01Next _ _ _ _ _ (o : Int) D.out.S (by omega) (by omega)).mono ?_
              rintro e w18 ⟨kv, rfl, hkv, hS, hg, hz⟩
              replace D := Lib.hid (D.out.call hS hg)
              clear hS hg hz
              have hkv2 : kv < 1000 := by omega
              go_wp2_with fail
              refine (spec_l02Var (1 + (kv : Int)) _).mono ?_
              rintro e w19 ⟨u, rfl, ho, hb⟩
              have O := Lib.hid (D.out.made ho)
              replace D := Lib.hid (D.out.below hb)
              clear ho hb
              go_wp2
              go_ret
              exact ⟨_, _, rfl, by simp, by simp, O.out, D.out.S, D.out.gr⟩
        · clear hk1
          go_wp2_with fail
          refine (spec_l02Var _ _).mono ?_
          rintro e w20 ⟨u, rfl, ho, hb⟩
          have O := Lib.hid (D.out.made ho)
          replace D := Lib.hid (D.out.below hb)
          clear ho hb
          go_wp2
          go_ret
          exact ⟨_, _, rfl, by simp, by simp, O.out, D.out.S, D.out.gr⟩
    · have hs3 : size ≤ 1000 := by omega
      have HQ := Lib.hid (quo2 size hs3)
      have HC : Hid (((size - 1 : Nat) : Int) = (size : Int) - 1) := Lib.hid (by omega)
      have D := Lib.hid (Dg.start S)
      clear S
      go_enter Tryz.func143, Tryz.ntmps143
      go_wp2_with fail
      refine (spec_l01Next _ _ _ _ _ 6 D.out.S (by decide) (by decide)).mono ?_
      rintro e w21 ⟨k6, rfl, hk6, hS, hg, hz⟩
      replace D := Lib.hid (D.out.call hS hg)
      clear hS hg hz
      cases t0 : ((k6 : Int) == 0)
      · cases t1 : ((k6 : Int) == 1)
        · cases t2 : ((k6 : Int) == 2)
          · clear hk6
            go_wp2_with fail
            refine (spec_l01Next _ _ _ _ _ 2 D.out.S (by decide) (by decide)).mono ?_
            rintro e w22 ⟨k2, rfl, hk2, hS, hg, hz⟩
            replace D := Lib.hid (D.out.call hS hg)
            clear hS hg hz
            go_wp2_with fail
            refine ((show Calls Tryz.prog 143 #[.pointer (some ⟨g, 0, none⟩), .int .i64 ((size : Int) - 1), .int .i64 (o : Int), .bool true] _ _ from HC.out ▸ IH.out true (size - 1) _ (by omega) (by omega) D.out.S)).mono ?_
            rintro e w23 ⟨u1, L1, rfl, hl1, hl1', O1, hS, hg⟩
            replace O1 := Lib.hid (D.out.made O1)
            replace D := Lib.hid (D.out.call hS hg)
            clear hS hg
            have hl : L1.length + 1 ≤ 4 * size - 1 := by omega
            go_wp2_with fail
            refine (spec_l02Pre (5 + (k2 : Int)) _ L1 _ O1.out.sl (by omega)).mono ?_
            rintro e w24 ⟨u, rfl, ho, hb⟩
            have O := Lib.hid (D.out.made ho)
            replace O1 := Lib.hid (O1.out.below hb)
            replace D := Lib.hid (D.out.below hb)
            clear ho hb
            have HL := Lib.hid hl
            clear hl hl1 hl1'
            go_wp2
            go_ret
            exact ⟨_, _, rfl, by simp, by have := HL.out; simp; omega, O.out, D.out.S, D.out.gr⟩
          · clear hk6
            go_wp2_with fail
            refine ((show Calls Tryz.prog 143 #[.pointer (some ⟨g, 0, none⟩), .int .i64 ((size : Int) - 1), .int .i64 (o : Int), .bool inn] _ _ from HC.out ▸ IH.out inn (size - 1) _ (by omega) (by omega) D.out.S)).mono ?_
            rintro e w25 ⟨u1, L1, rfl, hl1, hl1', O1, hS, hg⟩
            replace O1 := Lib.hid (D.out.made O1)
            replace D := Lib.hid (D.out.call hS hg)
            clear hS hg
            have hl : L1.length + 2 ≤ 4 * size - 1 := by omega
            go_wp2_with fail
            refine (spec_l02Not _ L1 _ O1.out.sl (by omega)).mono ?_
            rintro e w26 ⟨u, rfl, ho, hb⟩
            have O := Lib.hid (D.out.made ho)
            replace O1 := Lib.hid (O1.out.below hb)
            replace D := Lib.hid (D.out.below hb)
            clear ho hb
            have HL := Lib.hid hl
            clear hl hl1 hl1'
            go_wp2
            go_ret
            exact ⟨_, _, rfl, by simp, by have := HL.out; simp; omega, O.out, D.out.S, D.out.gr⟩
        · clear hk6
          go_wp2_with fail
          refine ((show Calls Tryz.prog 143 #[.pointer (some ⟨g, 0, none⟩), .int .i64 ((size : Int).tdiv 2), .int .i64 (o : Int), .bool inn] _ _ from HQ.out ▸ IH.out inn (size / 2) _ (by omega) (by omega) D.out.S)).mono ?_
          rintro e w27 ⟨u1, L1, rfl, hl1, hl1', O1, hS, hg⟩
          replace O1 := Lib.hid (D.out.made O1)
          replace D := Lib.hid (D.out.call hS hg)
          clear hS hg
          go_wp2_with fail
          refine ((show Calls Tryz.prog 143 #[.pointer (some ⟨g, 0, none⟩), .int .i64 ((size : Int).tdiv 2), .int .i64 (o : Int), .bool inn] _ _ from HQ.out ▸ IH.out inn (size / 2) _ (by omega) (by omega) D.out.S)).mono ?_
          rintro e w28 ⟨u2, L2, rfl, hl2, hl2', O2, hS, hg⟩
          replace O2 := Lib.hid (D.out.made O2)
          replace O1 := Lib.hid (D.out.pass O1.out hg)
          replace D := Lib.hid (D.out.call hS hg)
          clear hS hg
          have hl : L1.length + L2.length + 1 ≤ 4 * size - 1 := by omega
          go_wp2_with fail
          refine (spec_l02Pair 4 _ _ L1 L2 _ O1.out.sl O2.out.sl (by omega) (by omega)).mono ?_
          rintro e w29 ⟨u, rfl, ho, hb⟩
          have O := Lib.hid (D.out.made ho)
          replace O1 := Lib.hid (O1.out.below hb)
          replace O2 := Lib.hid (O2.out.below hb)
          replace D := Lib.hid (D.out.below hb)
          clear ho hb
          have HL := Lib.hid hl
          clear hl hl1 hl1' hl2 hl2'
          go_wp2
          go_ret
          exact ⟨_, _, rfl, by simp, by have := HL.out; simp; omega, O.out, D.out.S, D.out.gr⟩
      · clear hk6
        go_wp2_with fail
        refine ((show Calls Tryz.prog 143 #[.pointer (some ⟨g, 0, none⟩), .int .i64 ((size : Int).tdiv 2), .int .i64 (o : Int), .bool inn] _ _ from HQ.out ▸ IH.out inn (size / 2) _ (by omega) (by omega) D.out.S)).mono ?_
        rintro e w30 ⟨u1, L1, rfl, hl1, hl1', O1, hS, hg⟩
        replace O1 := Lib.hid (D.out.made O1)
        replace D := Lib.hid (D.out.call hS hg)
        clear hS hg
        go_wp2_with fail
        refine ((show Calls Tryz.prog 143 #[.pointer (some ⟨g, 0, none⟩), .int .i64 ((size : Int).tdiv 2), .int .i64 (o : Int), .bool inn] _ _ from HQ.out ▸ IH.out inn (size / 2) _ (by omega) (by omega) D.out.S)).mono ?_
        rintro e w31 ⟨u2, L2, rfl, hl2, hl2', O2, hS, hg⟩
        replace O2 := Lib.hid (D.out.made O2)
        replace O1 := Lib.hid (D.out.pass O1.out hg)
        replace D := Lib.hid (D.out.call hS hg)
        clear hS hg
        have hl : L1.length + L2.length + 1 ≤ 4 * size - 1 := by omega
        go_wp2_with fail
        refine (spec_l02Pair 2 _ _ L1 L2 _ O1.out.sl O2.out.sl (by omega) (by omega)).mono ?_
        rintro e w32 ⟨u, rfl, ho, hb⟩
        have O := Lib.hid (D.out.made ho)
        replace O1 := Lib.hid (O1.out.below hb)
        replace O2 := Lib.hid (O2.out.below hb)
        replace D := Lib.hid (D.out.below hb)
        clear ho hb
        have HL := Lib.hid hl
        clear hl hl1 hl1' hl2 hl2'
        go_wp2
        go_ret
        exact ⟨_, _, rfl, by simp, by have := HL.out; simp; omega, O.out, D.out.S, D.out.gr⟩
set_option maxRecDepth 100000 in
set_option maxHeartbeats 4000000 in
theorem spec_l33Drawn (o : Nat) (ho : o ≤ 1000) (w0 : World) (v : Value) (xs : List (Fin 256)) (w : World) (g : Nat) (S : Src 151 w0 v xs w g) :
    Calls Tryz.prog 71 #[.pointer (some ⟨g, 0, none⟩), .int .i64 (o : Int)] w fun e w' => ∃ (u : Value) (L : List Nd) (x : Int), e = .returned (.tuple #[u, .int .i64 x]) ∧ L.length ≤ 1001 ∧ Ow cN 82 w.heap.size w' u L ∧ Src 151 w0 v xs w' g ∧ w.grownBy w' (some g) := by
  have D := Lib.hid (Dg.start S)
  clear S
  go_enter Tryz.func71, Tryz.ntmps71
  go_wp2_with fail
  refine (spec_l01Next _ _ _ _ _ 6 D.out.S (by decide) (by decide)).mono ?_
  rintro e w1 ⟨k, rfl, hk, hS, hg, hz⟩
  replace D := Lib.hid (D.out.call hS hg)
  clear hS hg hz
  have hk7 : 2 + k ≤ 7 := by omega
  clear hk
  go_wp2_with fail
  refine ((show Calls Tryz.prog 143 #[.pointer (some ⟨g, 0, none⟩), .int .i64 (2 + (k : Int)), .int .i64 (o : Int), .bool false] _ _ from spec_l33Guardedly o ho 7 (by omega) _ _ _ _ false (2 + k) _ (by omega) hk7 D.out.S)).mono ?_
  rintro e w2 ⟨u, L, rfl, hl1, hl2, O, hS, hg⟩
  replace O := Lib.hid (D.out.made O)
  replace D := Lib.hid (D.out.call hS hg)
  clear hS hg
  have hl : L.length ≤ 1001 := by omega
  clear hl1 hl2 hk7
  go_wp2_with fail
  refine (spec_l01Next _ _ _ _ _ 20 D.out.S (by decide) (by decide)).mono ?_
  rintro e w3 ⟨k2, rfl, hk2, hS, hg, hz⟩
  replace O := Lib.hid (D.out.pass O.out hg)
  replace D := Lib.hid (D.out.call hS hg)
  clear hS hg hz
  cases t0 : ((k2 : Int) == 0)
  · cases t1 : ((k2 : Int) == 1)
    · clear hk2
      obtain ⟨A, c, rfl⟩ := O.out.opn
      go_wp2
      refine bodyPost_ret (v := .tuple #[.slice A L.length c, .int .i64 0]) (by simp [results, Tryz.results71, go_sem]) rfl ⟨_, L, 0, rfl, by omega, O.out, D.out.S, D.out.gr⟩
    · clear hk2
      go_wp2_with fail
      refine (spec_l01Pick _ _ _ _ _ _ [1, 5, 6, -1] (D.out.alloc _).S (Ow.lit (K := cI) (B := w3.heap.size) [1, 5, 6, -1] rfl rfl (Nat.le_refl _)).sl (.inr (fun e => by injection e with e; have := D.out.S.lt; have e' : w3.heap.size = g := e; omega)) (by decide) (by decide)).mono ?_
      rintro e w9 ⟨y, rfl, hy, hS, hg, hz⟩
      have O9 := Lib.hid ((D.out.alloc _).pass (O.out.alloc _) hg)
      have D9 := Lib.hid ((D.out.alloc _).call hS hg)
      clear hS hg hz hy O D
      have O := O9
      have D := D9
      clear O9 D9
      obtain ⟨A, c, rfl⟩ := O.out.opn
      go_wp2
      refine bodyPost_ret (v := .tuple #[.slice A L.length c, .int .i64 y]) (by simp [results, Tryz.results71, go_sem]) rfl ⟨_, L, y, rfl, by omega, O.out, D.out.S, D.out.gr⟩
  · clear hk2
    clear O hl
    clear L
    go_wp2_with fail
    refine (spec_l02Any _ _ _ _ _ 8 2 true D.out.S (by decide) (by decide) (by decide) (by decide)).mono ?_
    rintro e w4 ⟨u2, L, rfl, hl, O, hS, hg⟩
    replace O := Lib.hid (D.out.made O)
    replace D := Lib.hid (D.out.call hS hg)
    clear hS hg
    obtain ⟨A, c, rfl⟩ := O.out.opn
    go_wp2
    refine bodyPost_ret (v := .tuple #[.slice A L.length c, .int .i64 0]) (by simp [results, Tryz.results71, go_sem]) rfl ⟨_, L, 0, rfl, by omega, O.out, D.out.S, D.out.gr⟩
/- The reference's drawing functions of chapter 33, by shape: DrawUniquenessFormula, DrawOuterParts, DrawFixedPointOf, DrawLetterlessFixedPoint. -/
set_option maxRecDepth 100000 in
theorem spec_DrawLetterlessFixedPoint (v : Value) (xs : List (Fin 256)) (w : World) (h : Sl cY w v xs) (hl : xs.length ≤ 4096) :
    Calls Tryz.prog 32 #[v] w fun e w' => ∃ (u : Value) (L : List Nd) (x : Int), e = .returned (.tuple #[u, .int .i64 x]) ∧ L.length ≤ 1001 ∧ Sl cN w' u L ∧ Below w.heap.size w w' := by
  go_enter Tryz.func32, Tryz.ntmps32
  go_wp2_with fail
  refine (spec_l01From v xs w h hl).mono ?_
  rintro e w1 ⟨rfl, hS, hb⟩
  have HB := Lib.hid hb
  go_wp2_with fail
  refine (spec_l33Drawn 0 (by decide) _ v xs w1 _ hS).mono ?_
  rintro e w2 ⟨u, L, x, rfl, hL, ho, hS2, hg⟩
  have HS := Lib.hid ho.sl
  have HB2 := Lib.hid (below_grown HB.out hg hb.size (fun k e => by injection e with e; omega))
  have hL := Lib.hid hL
  obtain ⟨A, c, rfl⟩ := HS.out.opn
  clear ho hS2 hg hS hb
  go_wp2
  refine bodyPost_ret (v := .tuple #[.slice A L.length c, .int .i64 x]) (by simp [results, Tryz.results32, go_sem]) rfl ⟨_, L, _, rfl, hL.out, HS.out, HB2.out⟩
set_option maxRecDepth 100000 in
theorem spec_DrawFixedPointOf (v : Value) (xs : List (Fin 256)) (w : World) (h : Sl cY w v xs) (hl : xs.length ≤ 4096) :
    Calls Tryz.prog 27 #[v] w fun e w' => ∃ (u : Value) (L : List Nd) (x : Int), e = .returned (.tuple #[u, .int .i64 x]) ∧ L.length ≤ 1001 ∧ Sl cN w' u L ∧ Below w.heap.size w w' := by
  go_enter Tryz.func27, Tryz.ntmps27
  go_wp2_with fail
  refine (spec_l01From v xs w h hl).mono ?_
  rintro e w1 ⟨rfl, hS, hb⟩
  have HB := Lib.hid hb
  have HZ := Lib.hid hb.size
  clear hb
  go_wp2_with fail
  refine (spec_l01Next _ v xs w1 _ 3 hS (by decide) (by decide)).mono ?_
  rintro e w2 ⟨k, rfl, hk, hS2, hg, hz⟩
  have HB2 := Lib.hid (below_grown HB.out hg HZ.out (fun k e => by injection e with e; omega))
  have hk' : k ≤ 1000 := by omega
  clear hS hg hz hk
  go_wp2_with fail
  refine (spec_l33Drawn k hk' _ v xs w2 _ hS2).mono ?_
  rintro e w3 ⟨u, L, x, rfl, hL, ho, hS3, hg⟩
  have HS := Lib.hid ho.sl
  have HB3 := Lib.hid (below_grown HB2.out hg HB2.out.size (fun k e => by injection e with e; omega))
  have hL := Lib.hid hL
  obtain ⟨A, c, rfl⟩ := HS.out.opn
  clear ho hS2 hS3 hg
  go_wp2
  refine bodyPost_ret (v := .tuple #[.slice A L.length c, .int .i64 x]) (by simp [results, Tryz.results27, go_sem]) rfl ⟨_, L, _, rfl, hL.out, HS.out, HB3.out⟩
set_option maxRecDepth 100000 in
theorem spec_DrawOuterParts (v : Value) (xs : List (Fin 256)) (w : World) (h : Sl cY w v xs) (hl : xs.length ≤ 4096) :
    Calls Tryz.prog 21 #[v] w fun e w' => ∃ (u : Value) (L : List Nd) (x : Int), e = .returned (.tuple #[u, .int .i64 x]) ∧ L.length ≤ 1001 ∧ Sl cN w' u L ∧ Below w.heap.size w w' := by
  go_enter Tryz.func21, Tryz.ntmps21
  go_wp2_with fail
  refine (spec_l01From v xs w h hl).mono ?_
  rintro e w1 ⟨rfl, hS, hb⟩
  have HB := Lib.hid hb
  have HZ := Lib.hid hb.size
  clear hb
  go_wp2_with fail
  refine (spec_l01Next _ v xs w1 _ 3 hS (by decide) (by decide)).mono ?_
  rintro e w2 ⟨k, rfl, hk, hS2, hg, hz⟩
  have HB2 := Lib.hid (below_grown HB.out hg HZ.out (fun k e => by injection e with e; omega))
  clear hS hg hz hk
  cases t0 : ((k : Int) == 0)
  · go_wp2_with fail
    refine (show Calls Tryz.prog 71 #[.pointer (some ⟨w.heap.size, 0, none⟩), .int .i64 2] _ _ from spec_l33Drawn 2 (by decide) _ v xs w2 _ hS2).mono ?_
    rintro e w3 ⟨u, L, x, rfl, hL, ho, hS3, hg⟩
    have HS := Lib.hid ho.sl
    have HB3 := Lib.hid (below_grown HB2.out hg HB2.out.size (fun k e => by injection e with e; omega))
    have hL := Lib.hid hL
    obtain ⟨A, c, rfl⟩ := HS.out.opn
    clear ho hS2 hS3 hg
    go_wp2
    refine bodyPost_ret (v := .tuple #[.slice A L.length c, .int .i64 x]) (by simp [results, Tryz.results21, go_sem]) rfl ⟨_, L, _, rfl, hL.out, HS.out, HB3.out⟩
  · go_wp2_with fail
    refine (spec_l02Any _ v xs w2 _ 16 2 true hS2 (by decide) (by decide) (by decide) (by decide)).mono ?_
    rintro e w3 ⟨u, L, rfl, hL, ho, hS3, hg⟩
    have HO := Lib.hid ho
    have HB3 := Lib.hid (below_grown HB2.out hg HB2.out.size (fun k e => by injection e with e; omega))
    have hL := Lib.hid hL
    have HZ2 := Lib.hid HB2.out.size
    have HB20 : Hid (w.heap.size < w2.heap.size) := Lib.hid hS2.lt
    clear ho hS2 hg
    obtain ⟨A, c, rfl⟩ := HO.out.opn
    go_wp2_with fail
    refine (spec_l01Next _ v xs w3 _ 2 hS3 (by decide) (by decide)).mono ?_
    rintro e w4 ⟨k2, rfl, hk2, hS4, hg, hz⟩
    have HB4 := Lib.hid (below_grown HB3.out hg HB3.out.size (fun k e => by injection e with e; omega))
    have HS := Lib.hid (HO.out.kept hg (by
      cases hv : (Value.slice A L.length c).ownBlock with
      | none => exact .inl rfl
      | some q => exact .inr (fun e => by injection e with e; have h1 := (HO.out.block q hv).1; have h2 := HB20.out; omega))).sl
    clear hS3 hS4 hg hz hk2
    go_wp2
    refine bodyPost_ret (v := .tuple #[.slice A L.length c, .int .i64 k2]) (by simp [results, Tryz.results21, go_sem]) rfl ⟨_, L, _, rfl, hL.out, HS.out, HB4.out⟩
set_option maxRecDepth 100000 in
theorem spec_DrawUniquenessFormula (v : Value) (xs : List (Fin 256)) (w : World) (h : Sl cY w v xs) (hl : xs.length ≤ 4096) :
    Calls Tryz.prog 13 #[v] w fun e w' => ∃ (u : Value) (L : List Nd) (x y : Int), e = .returned (.tuple #[u, .int .i64 x, .int .i64 y]) ∧ L.length ≤ 1001 ∧ Sl cN w' u L ∧ Below w.heap.size w w' := by
  go_enter Tryz.func13, Tryz.ntmps13
  go_wp2_with fail
  refine (spec_l01From v xs w h hl).mono ?_
  rintro e w1 ⟨rfl, hS, hb⟩
  have HB := Lib.hid hb
  have HZ := Lib.hid hb.size
  clear hb
  go_wp2_with fail
  refine (show Calls Tryz.prog 71 #[.pointer (some ⟨w.heap.size, 0, none⟩), .int .i64 1] _ _ from spec_l33Drawn 1 (by decide) _ v xs w1 _ hS).mono ?_
  rintro e w2 ⟨u, L, x, rfl, hL, ho, hS2, hg⟩
  have HO := Lib.hid ho
  have HB2 := Lib.hid (below_grown HB.out hg HZ.out (fun k e => by injection e with e; omega))
  have hL := Lib.hid hL
  have HB20 : Hid (w.heap.size < w1.heap.size) := Lib.hid hS.lt
  have HS2 := Lib.hid hS2
  clear ho hS2 hg hS
  obtain ⟨A, c, rfl⟩ := HO.out.opn
  have hba := below_alloc' w2 (.cells #[.int .i64 3, .int .i64 4, .int .i64 5, .int .i64 5, .int .i64 1, .int .i64 0, .int .i64 6, .int .i64 (-1)] 2)
  have HB3 := Lib.hid (bthen HB2.out hba)
  have HO3 := Lib.hid (HO.out.below hba)
  have HS3 := Lib.hid (HS2.out.below hba)
  have HZ2 := Lib.hid HS2.out.lt
  clear hba
  go_wp2_with fail
  refine (spec_l01Pick _ _ _ _ _ _ [3, 4, 5, 5, 1, 0, 6, -1] HS3.out (Ow.lit (K := cI) (B := w2.heap.size) [3, 4, 5, 5, 1, 0, 6, -1] rfl rfl (Nat.le_refl _)).sl (.inr (fun e => by injection e with e; have h1 := HZ2.out; have h2 : w2.heap.size = w.heap.size := e; omega)) (by decide) (by decide)).mono ?_
  rintro e w4 ⟨y, rfl, hy, hS4, hg, hz⟩
  have HB4 := Lib.hid (below_grown HB3.out hg HB3.out.size (fun k e => by injection e with e; omega))
  have HS := Lib.hid (HO3.out.kept hg (by
    cases hv : (Value.slice A L.length c).ownBlock with
    | none => exact .inl rfl
    | some q => exact .inr (fun e => by injection e with e; have h1 := (HO3.out.block q hv).1; have h2 := HB20.out; omega))).sl
  clear hS4 hg hz hy HS2
  go_wp2
  refine bodyPost_ret (v := .tuple #[.slice A L.length c, .int .i64 x, .int .i64 y]) (by simp [results, Tryz.results13, go_sem]) rfl ⟨_, L, _, _, rfl, hL.out, HS.out, HB4.out⟩
end Go.Proofs.YtgcoohlakcncbaaGreat

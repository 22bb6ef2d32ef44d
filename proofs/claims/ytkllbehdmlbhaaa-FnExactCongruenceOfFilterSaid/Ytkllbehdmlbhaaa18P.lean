/- The laws' own functions on Heyting algebras in the one form. Written by gen18P.py. -/
import Derived.Test.Ytkllbehdmlbhaaa18N
namespace Go.Proofs.Ytkllbehdmlbhaaa
open Go.RowKit
set_option linter.unusedVariables false
set_option linter.unusedSimpArgs false
theorem u_sz_Heyting (v0 : Value) (A : List (List Int)) (v1 : Value) (O : List (List Int)) (v2 : Value) (I : List (List Int)) (b t : Int) (l : Int) (w : World) (h0 : Sl2 cI w v0 A) (h1 : Sl2 cI w v1 O) (h2 : Sl2 cI w v2 I) (hl : -1 ≤ l ∧ l ≤ 1048576) :
    Calls Try.prog 5 #[.agg #[v0, v1, v2, .int .i64 b, .int .i64 t], .int .i64 l] w fun e w' => e = .returned (.int .i64 (szL l (totI A + totI O + totI I : Nat))) ∧ Below w.heap.size w w' := by
  have hb0 := below_alloc' w (.cells #[v0, v1, v2, .int .i64 b, .int .i64 t] 24)
  have hk0 := Blk.new w 24 #[v0, v1, v2, .int .i64 b, .int .i64 t]
  have HB := Lib.hid hb0
  have HK0 := Lib.hid hk0
  have H0 := Lib.hid (fun (l : Int) (hl : -1 ≤ l ∧ l ≤ 1048576) W (hW : Below w.heap.size w W) => u_sz_SSI v0 A l W (h0.below hW) hl)
  have H1 := Lib.hid (fun (l : Int) (hl : -1 ≤ l ∧ l ≤ 1048576) W (hW : Below w.heap.size w W) => u_sz_SSI v1 O l W (h1.below hW) hl)
  have H2 := Lib.hid (fun (l : Int) (hl : -1 ≤ l ∧ l ≤ 1048576) W (hW : Below w.heap.size w W) => u_sz_SSI v2 I l W (h2.below hW) hl)
  clear hb0 hk0 h0 h1 h2
  rcases (show l - (totI A : Int) < 0 ∨ ¬ l - (totI A : Int) < 0 by omega) with q0 | q0
  · rw [szL_neg (show l - ((totI A + totI O + totI I : Nat) : Int) < 0 by omega)]
    go_enter Try.func5, Try.ntmps5
    go_upto_region 1 with fail
    generalize World.alloc w _ = W at *
    have k0 := HK0.out.cell
    have l0 := HK0.out.lt
    have C0 := H0.out (l) (by omega) _ HB.out
    rw [szL_neg (by omega)] at C0
    have CC0 := Lib.hid C0
    clear C0
    go_wp2_with fail
    refine CC0.out.mono ?_
    rintro e w1 ⟨rfl, hb⟩
    have HB1 := Lib.hid (bthen HB.out hb)
    have HK1 := Lib.hid (HK0.out.below hb l0)
    clear k0 l0 hb
    go_wp2
    go_ret
    exact ⟨rfl, HB1.out⟩
  · rcases (show l - (totI A : Int) - (totI O : Int) < 0 ∨ ¬ l - (totI A : Int) - (totI O : Int) < 0 by omega) with q1 | q1
    · rw [szL_neg (show l - ((totI A + totI O + totI I : Nat) : Int) < 0 by omega)]
      go_enter Try.func5, Try.ntmps5
      go_upto_region 1 with fail
      generalize World.alloc w _ = W at *
      have k0 := HK0.out.cell
      have l0 := HK0.out.lt
      have C0 := H0.out (l) (by omega) _ HB.out
      rw [szL_pos (by omega)] at C0
      have CC0 := Lib.hid C0
      clear C0
      go_wp2_with fail
      refine CC0.out.mono ?_
      rintro e w1 ⟨rfl, hb⟩
      have HB1 := Lib.hid (bthen HB.out hb)
      have HK1 := Lib.hid (HK0.out.below hb l0)
      clear k0 l0 hb
      have n0 : decide (l - (totI A : Int) < 0) = false := decide_eq_false (by omega)
      have k0 := HK1.out.cell
      have l0 := HK1.out.lt
      have C1 := H1.out (l - (totI A : Int)) (by omega) _ HB1.out
      rw [szL_neg (by omega)] at C1
      have CC1 := Lib.hid C1
      clear C1
      go_wp2_with fail
      refine CC1.out.mono ?_
      rintro e w2 ⟨rfl, hb⟩
      have HB2 := Lib.hid (bthen HB1.out hb)
      have HK2 := Lib.hid (HK1.out.below hb l0)
      clear k0 l0 hb
      go_wp2
      go_ret
      exact ⟨rfl, HB2.out⟩
    · rcases (show l - (totI A : Int) - (totI O : Int) - (totI I : Int) < 0 ∨ ¬ l - (totI A : Int) - (totI O : Int) - (totI I : Int) < 0 by omega) with q2 | q2
      · rw [szL_neg (show l - ((totI A + totI O + totI I : Nat) : Int) < 0 by omega)]
        go_enter Try.func5, Try.ntmps5
        go_upto_region 1 with fail
        generalize World.alloc w _ = W at *
        have k0 := HK0.out.cell
        have l0 := HK0.out.lt
        have C0 := H0.out (l) (by omega) _ HB.out
        rw [szL_pos (by omega)] at C0
        have CC0 := Lib.hid C0
        clear C0
        go_wp2_with fail
        refine CC0.out.mono ?_
        rintro e w1 ⟨rfl, hb⟩
        have HB1 := Lib.hid (bthen HB.out hb)
        have HK1 := Lib.hid (HK0.out.below hb l0)
        clear k0 l0 hb
        have n0 : decide (l - (totI A : Int) < 0) = false := decide_eq_false (by omega)
        have k0 := HK1.out.cell
        have l0 := HK1.out.lt
        have C1 := H1.out (l - (totI A : Int)) (by omega) _ HB1.out
        rw [szL_pos (by omega)] at C1
        have CC1 := Lib.hid C1
        clear C1
        go_wp2_with fail
        refine CC1.out.mono ?_
        rintro e w2 ⟨rfl, hb⟩
        have HB2 := Lib.hid (bthen HB1.out hb)
        have HK2 := Lib.hid (HK1.out.below hb l0)
        clear k0 l0 hb
        have n1 : decide (l - (totI A : Int) - (totI O : Int) < 0) = false := decide_eq_false (by omega)
        have k0 := HK2.out.cell
        have l0 := HK2.out.lt
        have C2 := H2.out (l - (totI A : Int) - (totI O : Int)) (by omega) _ HB2.out
        rw [szL_neg (by omega)] at C2
        have CC2 := Lib.hid C2
        clear C2
        go_wp2_with fail
        refine CC2.out.mono ?_
        rintro e w3 ⟨rfl, hb⟩
        have HB3 := Lib.hid (bthen HB2.out hb)
        have HK3 := Lib.hid (HK2.out.below hb l0)
        clear k0 l0 hb
        go_wp2
        go_ret
        exact ⟨rfl, HB3.out⟩
      · rw [szL_pos (show ¬ l - ((totI A + totI O + totI I : Nat) : Int) < 0 by omega), show l - ((totI A + totI O + totI I : Nat) : Int) = l - (totI A : Int) - (totI O : Int) - (totI I : Int) by omega]
        go_enter Try.func5, Try.ntmps5
        go_upto_region 1 with fail
        generalize World.alloc w _ = W at *
        have k0 := HK0.out.cell
        have l0 := HK0.out.lt
        have C0 := H0.out (l) (by omega) _ HB.out
        rw [szL_pos (by omega)] at C0
        have CC0 := Lib.hid C0
        clear C0
        go_wp2_with fail
        refine CC0.out.mono ?_
        rintro e w1 ⟨rfl, hb⟩
        have HB1 := Lib.hid (bthen HB.out hb)
        have HK1 := Lib.hid (HK0.out.below hb l0)
        clear k0 l0 hb
        have n0 : decide (l - (totI A : Int) < 0) = false := decide_eq_false (by omega)
        have k0 := HK1.out.cell
        have l0 := HK1.out.lt
        have C1 := H1.out (l - (totI A : Int)) (by omega) _ HB1.out
        rw [szL_pos (by omega)] at C1
        have CC1 := Lib.hid C1
        clear C1
        go_wp2_with fail
        refine CC1.out.mono ?_
        rintro e w2 ⟨rfl, hb⟩
        have HB2 := Lib.hid (bthen HB1.out hb)
        have HK2 := Lib.hid (HK1.out.below hb l0)
        clear k0 l0 hb
        have n1 : decide (l - (totI A : Int) - (totI O : Int) < 0) = false := decide_eq_false (by omega)
        have k0 := HK2.out.cell
        have l0 := HK2.out.lt
        have C2 := H2.out (l - (totI A : Int) - (totI O : Int)) (by omega) _ HB2.out
        rw [szL_pos (by omega)] at C2
        have CC2 := Lib.hid C2
        clear C2
        go_wp2_with fail
        refine CC2.out.mono ?_
        rintro e w3 ⟨rfl, hb⟩
        have HB3 := Lib.hid (bthen HB2.out hb)
        have HK3 := Lib.hid (HK2.out.below hb l0)
        clear k0 l0 hb
        have n2 : decide (l - (totI A : Int) - (totI O : Int) - (totI I : Int) < 0) = false := decide_eq_false (by omega)
        go_wp2
        go_ret
        exact ⟨rfl, HB3.out⟩
theorem u_eq_Heyting (v0 u0 : Value) (A : List (List Int)) (v1 u1 : Value) (O : List (List Int)) (v2 u2 : Value) (I : List (List Int)) (b t : Int) (w : World) (h0 : Sl2 cI w v0 A) (h1 : Sl2 cI w v1 O) (h2 : Sl2 cI w v2 I) (g0 : Sl2 cI w u0 A) (g1 : Sl2 cI w u1 O) (g2 : Sl2 cI w u2 I) (hn : totI A + totI O + totI I ≤ 268435456) :
    Calls Try.prog 10 #[.agg #[v0, v1, v2, .int .i64 b, .int .i64 t], .agg #[u0, u1, u2, .int .i64 b, .int .i64 t]] w fun e w' => e = .returned (.bool true) ∧ Below w.heap.size w w' := by
  have hb0 := below_alloc' w (.cells #[v0, v1, v2, .int .i64 b, .int .i64 t] 29)
  have hk0 := Blk.new w 29 #[v0, v1, v2, .int .i64 b, .int .i64 t]
  have hb1 := below_alloc' (w.alloc (.cells #[v0, v1, v2, .int .i64 b, .int .i64 t] 29)) (.cells #[u0, u1, u2, .int .i64 b, .int .i64 t] 29)
  have hk1 : Blk _ (w.heap.size + 1) _ _ := Blk.new' (w.alloc (.cells #[v0, v1, v2, .int .i64 b, .int .i64 t] 29)) 29 #[u0, u1, u2, .int .i64 b, .int .i64 t] (by simp)
  have HB := Lib.hid (bthen hb0 hb1)
  have HK0 := Lib.hid (hk0.below hb1 hk0.lt)
  have HJ0 := Lib.hid hk1
  have H0 := Lib.hid (fun W (hW : Below w.heap.size w W) => u_eq_SSI v0 u0 A W (h0.below hW) (g0.below hW) (by omega))
  have H1 := Lib.hid (fun W (hW : Below w.heap.size w W) => u_eq_SSI v1 u1 O W (h1.below hW) (g1.below hW) (by omega))
  have H2 := Lib.hid (fun W (hW : Below w.heap.size w W) => u_eq_SSI v2 u2 I W (h2.below hW) (g2.below hW) (by omega))
  have e3 : (b != b) = false := by simp
  have e4 : (t != t) = false := by simp
  clear hb0 hb1 hk0 hk1 h0 h1 h2 g0 g1 g2
  go_enter Try.func10, Try.ntmps10
  go_upto_region 1 with fail
  generalize World.alloc (w.alloc _) _ = W at *
  have k0 := HK0.out.cell
  have l0 := HK0.out.lt
  have j0 := HJ0.out.cell
  have m0 := HJ0.out.lt
  go_wp2_with fail
  refine (H0.out _ HB.out).mono ?_
  rintro e w1 ⟨rfl, hb⟩
  have HB1 := Lib.hid (bthen HB.out hb)
  have HK1 := Lib.hid (HK0.out.below hb l0)
  have HJ1 := Lib.hid (HJ0.out.below hb m0)
  clear k0 l0 j0 m0 hb
  have k0 := HK1.out.cell
  have l0 := HK1.out.lt
  have j0 := HJ1.out.cell
  have m0 := HJ1.out.lt
  go_wp2_with fail
  refine (H1.out _ HB1.out).mono ?_
  rintro e w2 ⟨rfl, hb⟩
  have HB2 := Lib.hid (bthen HB1.out hb)
  have HK2 := Lib.hid (HK1.out.below hb l0)
  have HJ2 := Lib.hid (HJ1.out.below hb m0)
  clear k0 l0 j0 m0 hb
  have k0 := HK2.out.cell
  have l0 := HK2.out.lt
  have j0 := HJ2.out.cell
  have m0 := HJ2.out.lt
  go_wp2_with fail
  refine (H2.out _ HB2.out).mono ?_
  rintro e w3 ⟨rfl, hb⟩
  have HB3 := Lib.hid (bthen HB2.out hb)
  have HK3 := Lib.hid (HK2.out.below hb l0)
  have HJ3 := Lib.hid (HJ2.out.below hb m0)
  clear k0 l0 j0 m0 hb
  have k0 := HK3.out.cell
  have l0 := HK3.out.lt
  have j0 := HJ3.out.cell
  have m0 := HJ3.out.lt
  go_wp2
  go_ret
  exact ⟨rfl, HB3.out⟩
theorem u_mark_Heyting (v0 : Value) (A : List (List Int)) (v1 : Value) (O : List (List Int)) (v2 : Value) (I : List (List Int)) (b t : Int) (k : Int) (B H1 H2 H3 : Nat) (w : World) (h0 : ObT B H1 w v0 A) (h1 : ObT H1 H2 w v1 O) (h2 : ObT H2 H3 w v2 I) (hs : B ≤ H1 ∧ H1 ≤ H2 ∧ H2 ≤ H3 ∧ H3 ≤ w.heap.size) (hl : totI A + totI O + totI I ≤ 33554432) (hk : 0 ≤ k ∧ k ≤ 16777216) :
    Calls Try.prog 11 #[.agg #[v0, v1, v2, .int .i64 b, .int .i64 t], .int .i64 k] w fun e w' => e = .returned (.int .i64 (k + sumLI A + sumLI O + sumLI I)) ∧ ObT B H1 w' v0 (numLL A k) ∧ ObT H1 H2 w' v1 (numLL O (k + sumLI A)) ∧ ObT H2 H3 w' v2 (numLL I (k + sumLI A + sumLI O)) ∧ Keep B H3 w w' := by
  have hb0 := below_alloc' w (.cells #[v0, v1, v2, .int .i64 b, .int .i64 t] 29)
  have hk0 := Blk.new w 29 #[v0, v1, v2, .int .i64 b, .int .i64 t]
  have s0 := sumLI_tot A
  have s1 := sumLI_tot O
  have s2 := sumLI_tot I
  have HK0 := Lib.hid hk0
  have A0 := Lib.hid (h0.below hb0)
  have A1 := Lib.hid (h1.below hb0)
  have A2 := Lib.hid (h2.below hb0)
  have KP0 := Lib.hid (Keep.of_below (B := B) (H := H3) hb0)
  obtain ⟨hs1, hs2, hs3, hs4⟩ := hs
  clear h0 h1 h2 hb0 hk0
  go_enter Try.func11, Try.ntmps11
  go_upto_region 1 with fail
  generalize World.alloc w _ = W at *
  have k0 := HK0.out.cell
  have l0 := HK0.out.lt
  go_wp2_with fail
  refine (u_mark_SSI v0 A (k) B H1 _ A0.out (by omega) (by omega)).mono ?_
  rintro e w1 ⟨rfl, ho, hkp⟩
  have HK1 : Hid (Blk w1 w.heap.size 29 #[v0, v1, v2, .int .i64 b, .int .i64 t]) := Lib.hid ((hkp.block _ l0 (.inr (by omega))).trans HK0.out)
  have N0 := Lib.hid ho
  replace A1 := Lib.hid (A1.out.keep hkp (.inr (by omega)))
  replace A2 := Lib.hid (A2.out.keep hkp (.inr (by omega)))
  have KP1 := Lib.hid (KP0.out.trans (hkp.mono (by omega) (by omega)))
  clear k0 l0 ho hkp
  have k0 := HK1.out.cell
  have l0 := HK1.out.lt
  go_wp2_with fail
  refine (u_mark_SSI v1 O (k + sumLI A) H1 H2 _ A1.out (by omega) (by omega)).mono ?_
  rintro e w2 ⟨rfl, ho, hkp⟩
  have HK2 : Hid (Blk w2 w.heap.size 29 #[v0, v1, v2, .int .i64 b, .int .i64 t]) := Lib.hid ((hkp.block _ l0 (.inr (by omega))).trans HK1.out)
  have N1 := Lib.hid ho
  replace N0 := Lib.hid (N0.out.keep hkp (.inl (by omega)))
  replace A2 := Lib.hid (A2.out.keep hkp (.inr (by omega)))
  have KP2 := Lib.hid (KP1.out.trans (hkp.mono (by omega) (by omega)))
  clear k0 l0 ho hkp
  have k0 := HK2.out.cell
  have l0 := HK2.out.lt
  go_wp2_with fail
  refine (u_mark_SSI v2 I (k + sumLI A + sumLI O) H2 H3 _ A2.out (by omega) (by omega)).mono ?_
  rintro e w3 ⟨rfl, ho, hkp⟩
  have HK3 : Hid (Blk w3 w.heap.size 29 #[v0, v1, v2, .int .i64 b, .int .i64 t]) := Lib.hid ((hkp.block _ l0 (.inr (by omega))).trans HK2.out)
  have N2 := Lib.hid ho
  replace N0 := Lib.hid (N0.out.keep hkp (.inl (by omega)))
  replace N1 := Lib.hid (N1.out.keep hkp (.inl (by omega)))
  have KP3 := Lib.hid (KP2.out.trans (hkp.mono (by omega) (by omega)))
  clear k0 l0 ho hkp
  go_wp2
  go_ret
  exact ⟨rfl, N0.out, N1.out, N2.out, KP3.out⟩
theorem u_held_Heyting (v0 : Value) (A : List (List Int)) (v1 : Value) (O : List (List Int)) (v2 : Value) (I : List (List Int)) (b t : Int) (k : Int) (w : World) (h0 : Sl2 cI w v0 (numLL A k)) (h1 : Sl2 cI w v1 (numLL O (k + sumLI A))) (h2 : Sl2 cI w v2 (numLL I (k + sumLI A + sumLI O))) (hl : totI A + totI O + totI I ≤ 33554432) (hk : 0 ≤ k ∧ k ≤ 16777216) :
    Calls Try.prog 16 #[.agg #[v0, v1, v2, .int .i64 b, .int .i64 t], .int .i64 k] w fun e w' => e = .returned (.int .i64 (k + sumLI A + sumLI O + sumLI I)) ∧ Below w.heap.size w w' := by
  have hb0 := below_alloc' w (.cells #[v0, v1, v2, .int .i64 b, .int .i64 t] 29)
  have hk0 := Blk.new w 29 #[v0, v1, v2, .int .i64 b, .int .i64 t]
  have s0 := sumLI_tot A
  have s1 := sumLI_tot O
  have s2 := sumLI_tot I
  have HB := Lib.hid hb0
  have HK0 := Lib.hid hk0
  have H0 := Lib.hid (fun W (hW : Below w.heap.size w W) => u_held_SSI v0 A (k) W (h0.below hW) (by omega) (by omega))
  have H1 := Lib.hid (fun W (hW : Below w.heap.size w W) => u_held_SSI v1 O (k + sumLI A) W (h1.below hW) (by omega) (by omega))
  have H2 := Lib.hid (fun W (hW : Below w.heap.size w W) => u_held_SSI v2 I (k + sumLI A + sumLI O) W (h2.below hW) (by omega) (by omega))
  have n0 : decide (k + (sumLI A : Int) < 0) = false := decide_eq_false (by omega)
  have n1 : decide (k + (sumLI A : Int) + (sumLI O : Int) < 0) = false := decide_eq_false (by omega)
  have n2 : decide (k + (sumLI A : Int) + (sumLI O : Int) + (sumLI I : Int) < 0) = false := decide_eq_false (by omega)
  clear hb0 hk0 h0 h1 h2
  go_enter Try.func16, Try.ntmps16
  go_upto_region 1 with fail
  generalize World.alloc w _ = W at *
  have k0 := HK0.out.cell
  have l0 := HK0.out.lt
  go_wp2_with fail
  refine (H0.out _ HB.out).mono ?_
  rintro e w1 ⟨rfl, hb⟩
  have HB1 := Lib.hid (bthen HB.out hb)
  have HK1 := Lib.hid (HK0.out.below hb l0)
  clear k0 l0 hb
  have k0 := HK1.out.cell
  have l0 := HK1.out.lt
  go_wp2_with fail
  refine (H1.out _ HB1.out).mono ?_
  rintro e w2 ⟨rfl, hb⟩
  have HB2 := Lib.hid (bthen HB1.out hb)
  have HK2 := Lib.hid (HK1.out.below hb l0)
  clear k0 l0 hb
  have k0 := HK2.out.cell
  have l0 := HK2.out.lt
  go_wp2_with fail
  refine (H2.out _ HB2.out).mono ?_
  rintro e w3 ⟨rfl, hb⟩
  have HB3 := Lib.hid (bthen HB2.out hb)
  have HK3 := Lib.hid (HK2.out.below hb l0)
  clear k0 l0 hb
  go_wp2
  go_ret
  exact ⟨rfl, HB3.out⟩
theorem ObT.mono {B B' H : Nat} {w : World} {v : Value} {xss : List (List Int)} (h : ObT B H w v xss) (hB : B' ≤ B) : ObT B' H w v xss := by
  obtain ⟨hs, b, h1, h2, h3, h4, h5, h6⟩ := h
  exact ⟨hs, b, ⟨h1.1.mono hB, h1.2⟩, h2, by omega, h4, h5, h6⟩
theorem ObT.set {B H : Nat} {w : World} {v : Value} {xss : List (List Int)} (h : ObT B H w v xss) {p : Addr} (hp : p.block < B) (u : Value) : ObT B H (w.setCell p u) v xss := by
  obtain ⟨hs, b, h1, h2, h3, h4, h5, h6⟩ := h
  refine ⟨hs, b, ⟨h1.1.setBelow hp u, h1.2⟩, h2, h3, h4, h5, fun i p' q => ?_⟩
  have hm := mono_ofI h4 (Nat.zero_le i)
  exact ⟨(h6 i p' q).1.setBelow (by omega) u, (h6 i p' q).2⟩
theorem u_to_Heyting (v0 : Value) (A : List (List Int)) (v1 : Value) (O : List (List Int)) (v2 : Value) (I : List (List Int)) (b t : Int) (w : World) (h0 : Sl2 cI w v0 A) (h1 : Sl2 cI w v1 O) (h2 : Sl2 cI w v2 I) (hl : totI A + totI O + totI I ≤ 1048576) :
    Calls Try.prog 7 #[.agg #[v0, v1, v2, .int .i64 b, .int .i64 t]] w fun e w' => ∃ u0 u1 u2 : Value, ∃ H1 H2 : Nat, e = .returned (.agg #[u0, u1, u2, .int .i64 b, .int .i64 t]) ∧ w.heap.size ≤ H1 ∧ H1 ≤ H2 ∧ H2 ≤ w'.heap.size ∧ ObT w.heap.size H1 w' u0 A ∧ ObT H1 H2 w' u1 O ∧ ObT H2 w'.heap.size w' u2 I ∧ Below w.heap.size w w' := by
  obtain ⟨a0, c0, rfl⟩ := h0.opn
  obtain ⟨a1, c1, rfl⟩ := h1.opn
  obtain ⟨a2, c2, rfl⟩ := h2.opn
  have H0 := Lib.hid (fun W (hW : Below w.heap.size w W) => u_to_SSI _ A W (h0.below hW) (by omega))
  have H1 := Lib.hid (fun W (hW : Below w.heap.size w W) => u_to_SSI _ O W (h1.below hW) (by omega))
  have H2 := Lib.hid (fun W (hW : Below w.heap.size w W) => u_to_SSI _ I W (h2.below hW) (by omega))
  have hb0 := below_alloc' w (.cells #[.slice a0 A.length c0, .slice a1 O.length c1, .slice a2 I.length c2, .int .i64 b, .int .i64 t] 24)
  have hk0 := Blk.new w 24 #[.slice a0 A.length c0, .slice a1 O.length c1, .slice a2 I.length c2, .int .i64 b, .int .i64 t]
  clear h0 h1 h2
  obtain ⟨W, hW⟩ : ∃ W, ((w.alloc (.cells #[.slice a0 A.length c0, .slice a1 O.length c1, .slice a2 I.length c2, .int .i64 b, .int .i64 t] 24)).alloc (.cells #[.slice none 0 0, .slice none 0 0, .slice none 0 0, .int .i64 0, .int .i64 0] 29)).alloc (.cells #[.slice none 0 0, .slice none 0 0, .slice none 0 0, .int .i64 0, .int .i64 0] 29) = W := ⟨_, rfl⟩
  have HW : Hid (Below w.heap.size w W) := Lib.hid (by rw [← hW]; exact (((hb0.alloc (by simp) _)).alloc (by simp <;> omega) _))
  have hbW : Below (w.heap.size + 1) (w.alloc (.cells #[.slice a0 A.length c0, .slice a1 O.length c1, .slice a2 I.length c2, .int .i64 b, .int .i64 t] 24)) W := by rw [← hW]; exact (((Below.refl _ _).alloc (by simp) _).alloc (by simp <;> omega) _)
  have HK := Lib.hid (hk0.below hbW (by omega))
  have HR : Hid (Blk W (w.heap.size + 1) 29 #[.slice none 0 0, .slice none 0 0, .slice none 0 0, .int .i64 0, .int .i64 0]) := Lib.hid (by rw [← hW]; exact (Blk.new' _ _ _ (by simp)).alloc _)
  have HT : Hid (Blk W (w.heap.size + 1 + 1) 29 #[.slice none 0 0, .slice none 0 0, .slice none 0 0, .int .i64 0, .int .i64 0]) := Lib.hid (by rw [← hW]; exact Blk.new' _ _ _ (by simp))
  have hWs : W.heap.size = w.heap.size + 3 := by rw [← hW]; simp
  go_enter Try.func7, Try.ntmps7
  go_upto_region 2 with fail
  try rw [hW]
  clear hW hbW hb0 hk0
  have k0 := HK.out.cell
  have l0 := HK.out.lt
  have l1 := HR.out.lt
  have l2 := HT.out.lt
  go_wp2_with fail
  refine (H0.out _ HW.out).mono ?_
  rintro e w1 ⟨u, rfl, ho, hb⟩
  obtain ⟨x0, y0, rfl⟩ := ho.opn
  have z0 := hb.size
  clear k0
  replace HK := Lib.hid (HK.out.below hb l0)
  replace HR := Lib.hid (HR.out.below hb l1)
  replace HT := Lib.hid (HT.out.below hb l2)
  replace HW := Lib.hid (bthen HW.out hb)
  have P0 := Lib.hid ho
  clear ho hb l0 l1 l2
  have k0 := HK.out.cell
  have j1 := HT.out.cell
  have f1 := HT.out.frozen
  have l0 := HK.out.lt
  have l1 := HR.out.lt
  have l2 := HT.out.lt
  go_upto_region 3 with fail
  have y0z : (World.setCell w1 ⟨w.heap.size + 1 + 1, 0, none⟩ (.slice x0 A.length y0)).heap.size = w1.heap.size := by simp [World.setCell]
  replace HK := Lib.hid (HK.out.far (p := ⟨w.heap.size + 1 + 1, 0, none⟩) (by show w.heap.size ≠ w.heap.size + 1 + 1; omega) (.slice x0 A.length y0))
  replace HR := Lib.hid (HR.out.far (p := ⟨w.heap.size + 1 + 1, 0, none⟩) (by show w.heap.size + 1 ≠ w.heap.size + 1 + 1; omega) (.slice x0 A.length y0))
  have HT9 : Hid (Blk _ (w.heap.size + 1 + 1) 29 #[.slice x0 A.length y0, .slice none 0 0, .slice none 0 0, .int .i64 0, .int .i64 0]) := Lib.hid (HT.out.set_ 0 (.slice x0 A.length y0))
  replace HW := Lib.hid (HW.out.setCell (p := ⟨w.heap.size + 1 + 1, 0, none⟩) (by show w.heap.size ≤ w.heap.size + 1 + 1; omega) (.slice x0 A.length y0))
  replace P0 := Lib.hid (ObT.set P0.out (p := ⟨w.heap.size + 1 + 1, 0, none⟩) (by show w.heap.size + 1 + 1 < _; omega) (.slice x0 A.length y0))
  clear HT k0 j1 f1 l0 l1 l2
  have HT := HT9
  clear HT9
  generalize World.setCell w1 ⟨w.heap.size + 1 + 1, 0, none⟩ _ = w2 at *
  have k0 := HK.out.cell
  have l0 := HK.out.lt
  have l1 := HR.out.lt
  have l2 := HT.out.lt
  go_wp2_with fail
  refine (H1.out _ HW.out).mono ?_
  rintro e w3 ⟨u, rfl, ho, hb⟩
  obtain ⟨x1, y1, rfl⟩ := ho.opn
  have z1 := hb.size
  clear k0
  replace HK := Lib.hid (HK.out.below hb l0)
  replace HR := Lib.hid (HR.out.below hb l1)
  replace HT := Lib.hid (HT.out.below hb l2)
  replace HW := Lib.hid (bthen HW.out hb)
  replace P0 := Lib.hid (P0.out.below hb)
  have P1 := Lib.hid ho
  clear ho hb l0 l1 l2
  have k0 := HK.out.cell
  have j1 := HT.out.cell
  have f1 := HT.out.frozen
  have l0 := HK.out.lt
  have l1 := HR.out.lt
  have l2 := HT.out.lt
  go_upto_region 4 with fail
  have y1z : (World.setCell w3 ⟨w.heap.size + 1 + 1, 1, none⟩ (.slice x1 O.length y1)).heap.size = w3.heap.size := by simp [World.setCell]
  replace HK := Lib.hid (HK.out.far (p := ⟨w.heap.size + 1 + 1, 1, none⟩) (by show w.heap.size ≠ w.heap.size + 1 + 1; omega) (.slice x1 O.length y1))
  replace HR := Lib.hid (HR.out.far (p := ⟨w.heap.size + 1 + 1, 1, none⟩) (by show w.heap.size + 1 ≠ w.heap.size + 1 + 1; omega) (.slice x1 O.length y1))
  have HT9 : Hid (Blk _ (w.heap.size + 1 + 1) 29 #[.slice x0 A.length y0, .slice x1 O.length y1, .slice none 0 0, .int .i64 0, .int .i64 0]) := Lib.hid (HT.out.set_ 1 (.slice x1 O.length y1))
  replace HW := Lib.hid (HW.out.setCell (p := ⟨w.heap.size + 1 + 1, 1, none⟩) (by show w.heap.size ≤ w.heap.size + 1 + 1; omega) (.slice x1 O.length y1))
  replace P0 := Lib.hid (ObT.set P0.out (p := ⟨w.heap.size + 1 + 1, 1, none⟩) (by show w.heap.size + 1 + 1 < _; omega) (.slice x1 O.length y1))
  replace P1 := Lib.hid (ObT.set P1.out (p := ⟨w.heap.size + 1 + 1, 1, none⟩) (by show w.heap.size + 1 + 1 < _; omega) (.slice x1 O.length y1))
  clear HT k0 j1 f1 l0 l1 l2
  have HT := HT9
  clear HT9
  generalize World.setCell w3 ⟨w.heap.size + 1 + 1, 1, none⟩ _ = w4 at *
  have k0 := HK.out.cell
  have l0 := HK.out.lt
  have l1 := HR.out.lt
  have l2 := HT.out.lt
  go_wp2_with fail
  refine (H2.out _ HW.out).mono ?_
  rintro e w5 ⟨u, rfl, ho, hb⟩
  obtain ⟨x2, y2, rfl⟩ := ho.opn
  have z2 := hb.size
  clear k0
  replace HK := Lib.hid (HK.out.below hb l0)
  replace HR := Lib.hid (HR.out.below hb l1)
  replace HT := Lib.hid (HT.out.below hb l2)
  replace HW := Lib.hid (bthen HW.out hb)
  replace P0 := Lib.hid (P0.out.below hb)
  replace P1 := Lib.hid (P1.out.below hb)
  have P2 := Lib.hid ho
  clear ho hb l0 l1 l2
  have k0 := HK.out.cell
  have j1 := HT.out.cell
  have f1 := HT.out.frozen
  have l0 := HK.out.lt
  have l1 := HR.out.lt
  have l2 := HT.out.lt
  go_upto_region 5 with fail
  have y2z : (World.setCell w5 ⟨w.heap.size + 1 + 1, 2, none⟩ (.slice x2 I.length y2)).heap.size = w5.heap.size := by simp [World.setCell]
  replace HK := Lib.hid (HK.out.far (p := ⟨w.heap.size + 1 + 1, 2, none⟩) (by show w.heap.size ≠ w.heap.size + 1 + 1; omega) (.slice x2 I.length y2))
  replace HR := Lib.hid (HR.out.far (p := ⟨w.heap.size + 1 + 1, 2, none⟩) (by show w.heap.size + 1 ≠ w.heap.size + 1 + 1; omega) (.slice x2 I.length y2))
  have HT9 : Hid (Blk _ (w.heap.size + 1 + 1) 29 #[.slice x0 A.length y0, .slice x1 O.length y1, .slice x2 I.length y2, .int .i64 0, .int .i64 0]) := Lib.hid (HT.out.set_ 2 (.slice x2 I.length y2))
  replace HW := Lib.hid (HW.out.setCell (p := ⟨w.heap.size + 1 + 1, 2, none⟩) (by show w.heap.size ≤ w.heap.size + 1 + 1; omega) (.slice x2 I.length y2))
  replace P0 := Lib.hid (ObT.set P0.out (p := ⟨w.heap.size + 1 + 1, 2, none⟩) (by show w.heap.size + 1 + 1 < _; omega) (.slice x2 I.length y2))
  replace P1 := Lib.hid (ObT.set P1.out (p := ⟨w.heap.size + 1 + 1, 2, none⟩) (by show w.heap.size + 1 + 1 < _; omega) (.slice x2 I.length y2))
  replace P2 := Lib.hid (ObT.set P2.out (p := ⟨w.heap.size + 1 + 1, 2, none⟩) (by show w.heap.size + 1 + 1 < _; omega) (.slice x2 I.length y2))
  clear HT k0 j1 f1 l0 l1 l2
  have HT := HT9
  clear HT9
  generalize World.setCell w5 ⟨w.heap.size + 1 + 1, 2, none⟩ _ = w6 at *
  have k0 := HK.out.cell
  have j1 := HT.out.cell
  have f1 := HT.out.frozen
  have r1 := HR.out.cell
  have g1 := HR.out.frozen
  have l0 := HK.out.lt
  have l1 := HR.out.lt
  have l2 := HT.out.lt
  go_wp2
  refine bodyPost_ret (v := .agg #[.slice x0 A.length y0, .slice x1 O.length y1, .slice x2 I.length y2, .int .i64 b, .int .i64 t]) (by simp [results, Try.results7, go_sem, k0, l0, r1, g1, l1, j1, f1, l2]) rfl ⟨_, _, _, w2.heap.size, w4.heap.size, rfl, by omega, by omega, by simp [World.setCell]; omega, ?_, ?_, ?_, ?_⟩
  · have h9 := ObT.mono (ObT.set (ObT.set (ObT.set (ObT.set (ObT.set (ObT.set (ObT.set P0.out (p := ⟨w.heap.size + 1 + 1, 3, none⟩) (by show w.heap.size + 1 + 1 < _; omega) (.int .i64 b)) (p := ⟨w.heap.size + 1 + 1, 4, none⟩) (by show w.heap.size + 1 + 1 < _; omega) (.int .i64 t)) (p := ⟨w.heap.size + 1, 0, none⟩) (by show w.heap.size + 1 < _; omega) (.slice x0 A.length y0)) (p := ⟨w.heap.size + 1, 1, none⟩) (by show w.heap.size + 1 < _; omega) (.slice x1 O.length y1)) (p := ⟨w.heap.size + 1, 2, none⟩) (by show w.heap.size + 1 < _; omega) (.slice x2 I.length y2)) (p := ⟨w.heap.size + 1, 3, none⟩) (by show w.heap.size + 1 < _; omega) (.int .i64 b)) (p := ⟨w.heap.size + 1, 4, none⟩) (by show w.heap.size + 1 < _; omega) (.int .i64 t)) (show w.heap.size ≤ W.heap.size by omega)
    rw [← y0z] at h9
    exact h9
  · have h9 := (ObT.set (ObT.set (ObT.set (ObT.set (ObT.set (ObT.set (ObT.set P1.out (p := ⟨w.heap.size + 1 + 1, 3, none⟩) (by show w.heap.size + 1 + 1 < _; omega) (.int .i64 b)) (p := ⟨w.heap.size + 1 + 1, 4, none⟩) (by show w.heap.size + 1 + 1 < _; omega) (.int .i64 t)) (p := ⟨w.heap.size + 1, 0, none⟩) (by show w.heap.size + 1 < _; omega) (.slice x0 A.length y0)) (p := ⟨w.heap.size + 1, 1, none⟩) (by show w.heap.size + 1 < _; omega) (.slice x1 O.length y1)) (p := ⟨w.heap.size + 1, 2, none⟩) (by show w.heap.size + 1 < _; omega) (.slice x2 I.length y2)) (p := ⟨w.heap.size + 1, 3, none⟩) (by show w.heap.size + 1 < _; omega) (.int .i64 b)) (p := ⟨w.heap.size + 1, 4, none⟩) (by show w.heap.size + 1 < _; omega) (.int .i64 t))
    rw [← y1z] at h9
    exact h9
  · have h9 := (ObT.set (ObT.set (ObT.set (ObT.set (ObT.set (ObT.set (ObT.set P2.out (p := ⟨w.heap.size + 1 + 1, 3, none⟩) (by show w.heap.size + 1 + 1 < _; omega) (.int .i64 b)) (p := ⟨w.heap.size + 1 + 1, 4, none⟩) (by show w.heap.size + 1 + 1 < _; omega) (.int .i64 t)) (p := ⟨w.heap.size + 1, 0, none⟩) (by show w.heap.size + 1 < _; omega) (.slice x0 A.length y0)) (p := ⟨w.heap.size + 1, 1, none⟩) (by show w.heap.size + 1 < _; omega) (.slice x1 O.length y1)) (p := ⟨w.heap.size + 1, 2, none⟩) (by show w.heap.size + 1 < _; omega) (.slice x2 I.length y2)) (p := ⟨w.heap.size + 1, 3, none⟩) (by show w.heap.size + 1 < _; omega) (.int .i64 b)) (p := ⟨w.heap.size + 1, 4, none⟩) (by show w.heap.size + 1 < _; omega) (.int .i64 t))
    have e9 : w5.heap.size = (World.setCell (World.setCell (World.setCell (World.setCell (World.setCell (World.setCell (World.setCell w6 ⟨w.heap.size + 1 + 1, 3, none⟩ (.int .i64 b)) ⟨w.heap.size + 1 + 1, 4, none⟩ (.int .i64 t)) ⟨w.heap.size + 1, 0, none⟩ (.slice x0 A.length y0)) ⟨w.heap.size + 1, 1, none⟩ (.slice x1 O.length y1)) ⟨w.heap.size + 1, 2, none⟩ (.slice x2 I.length y2)) ⟨w.heap.size + 1, 3, none⟩ (.int .i64 b)) ⟨w.heap.size + 1, 4, none⟩ (.int .i64 t)).heap.size := by rw [← y2z]; simp [World.setCell]
    rw [e9] at h9
    exact h9
  · exact (((((((HW.out.setCell (p := ⟨w.heap.size + 1 + 1, 3, none⟩) (by show w.heap.size ≤ w.heap.size + 1 + 1; omega) (.int .i64 b)).setCell (p := ⟨w.heap.size + 1 + 1, 4, none⟩) (by show w.heap.size ≤ w.heap.size + 1 + 1; omega) (.int .i64 t)).setCell (p := ⟨w.heap.size + 1, 0, none⟩) (by show w.heap.size ≤ w.heap.size + 1; omega) (.slice x0 A.length y0)).setCell (p := ⟨w.heap.size + 1, 1, none⟩) (by show w.heap.size ≤ w.heap.size + 1; omega) (.slice x1 O.length y1)).setCell (p := ⟨w.heap.size + 1, 2, none⟩) (by show w.heap.size ≤ w.heap.size + 1; omega) (.slice x2 I.length y2)).setCell (p := ⟨w.heap.size + 1, 3, none⟩) (by show w.heap.size ≤ w.heap.size + 1; omega) (.int .i64 b)).setCell (p := ⟨w.heap.size + 1, 4, none⟩) (by show w.heap.size ≤ w.heap.size + 1; omega) (.int .i64 t))
end Go.Proofs.Ytkllbehdmlbhaaa

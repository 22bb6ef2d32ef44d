/- Contracts of the rooted parts, of the reference: l34Code, RootedParts. -/
import Derived.Test.YtkdldfomdbgcaaaGreat34X
namespace Go.Proofs.YtkdldfomdbgcaaaGreat
open Go.RowKit
set_option linter.unusedVariables false
set_option linter.unusedSimpArgs false
set_option maxRecDepth 100000 in
theorem spec_l34Code1 (g d m c : Nat) (A : Option Addr) (n : Int) (xs : List Int) (w : World) (h0 : w.cell? ⟨g, 0, none⟩ = some (.int .i64 n)) (h1 : w.cell? ⟨g, 1, none⟩ = some (.slice A m d)) (hg : g < w.heap.size) (h : Sl cI w (.slice A m d) xs) (hl : xs.length ≤ 1073741824) :
    Calls Tryz.prog 24 #[.slice (some ⟨g, 0, none⟩) 1 c] w fun e w' => e = .returned (.int .i64 (scd n xs)) ∧ Below w.heap.size w w' := by
  have HI := Lib.hid (spec_l16Is n _ xs w h hl)
  have HSC : Hid (scd n xs = if psOk n xs then (if 6 < n then 3 else 0) else 1) := Lib.hid rfl
  clear h
  generalize scd n xs = r at *
  generalize psOk n xs = p at *
  go_enter Tryz.func24, Tryz.ntmps24
  go_wp2
  refine wp_loop_rounds 2 ?_
  rw [rounds_succ]
  go_wp2_with fail
  refine HI.out.mono ?_
  rintro e w1 ⟨rfl, hb⟩
  have HB := Lib.hid hb
  have e0 := (hb.cell (p := ⟨g, 0, none⟩) hg).trans h0
  have hg1 := Nat.lt_of_lt_of_le hg hb.size
  clear hb h0 h1
  cases p
  · obtain rfl : r = 1 := by rw [HSC.out]; rfl
    go_wp2
    go_ret
    exact ⟨rfl, HB.out⟩
  · by_cases h6 : 6 < n
    · obtain rfl : r = 3 := by rw [HSC.out, if_pos rfl, if_pos h6]
      have h6b : decide (n ≤ 6) = false := decide_eq_false (by omega)
      clear h6 HSC
      go_wp2
      rw [rounds_succ]
      go_wp2
      go_ret
      exact ⟨rfl, HB.out⟩
    · obtain rfl : r = 0 := by rw [HSC.out, if_pos rfl, if_neg h6]
      have h6b : decide (n ≤ 6) = true := decide_eq_true (by omega)
      clear h6 HSC
      go_wp2
      rw [rounds_succ]
      go_wp2
      go_ret
      exact ⟨rfl, HB.out⟩
set_option maxRecDepth 100000 in
theorem spec_RootedParts_bad (n : Int) (v : Value) (xs : List Int) (w : World) (h : Sl cI w v xs) (hl : xs.length ≤ 1073741824) (hc : scd n xs ≠ 0) :
    Calls Tryz.prog 6 #[.agg #[.int .i64 n, v]] w fun e w' => e = .returned (.tuple #[.slice none 0 0, .int .i64 (scd n xs)]) ∧ Below w.heap.size w w' := by
  obtain ⟨A0, c0, rfl⟩ := h.opn
  have HS := Lib.hid (fun g W (hW : Blk W g 29 #[.int .i64 n, .slice A0 xs.length c0]) (hX : Sl cI W (.slice A0 xs.length c0) xs) => spec_l34Code1 g c0 xs.length 1 A0 n xs W (hW.cell 0) (hW.cell 1) hW.lt hX hl)
  have HX := Lib.hid h
  have hc2 : (scd n xs != 0) = true := bne_iff_ne.2 hc
  generalize scd n xs = k at *
  clear h hc
  go_enter Tryz.func6, Tryz.ntmps6
  go_upto_region 1 with fail
  have K1 := Lib.hid (Blk.new w 29 #[.int .i64 n, .slice A0 xs.length c0])
  have HB1 := Lib.hid (below_alloc' w (.cells #[.int .i64 n, .slice A0 xs.length c0] 29))
  have HX1 := Lib.hid (HX.out.below HB1.out)
  generalize World.alloc w _ = w1 at *
  have K2 := Lib.hid (Blk.new w1 29 #[.int .i64 n, .slice A0 xs.length c0])
  have hb2 := below_alloc' w1 (.cells #[.int .i64 n, .slice A0 xs.length c0] 29)
  have HX2 := Lib.hid (HX1.out.below hb2)
  have HB2 := Lib.hid (bthen HB1.out hb2)
  clear hb2
  have k0 := K1.out.cell 0
  have k1 := K1.out.cell 1
  have k2 := K1.out.lt
  go_wp2_with fail
  refine (HS.out _ _ K2.out HX2.out).mono ?_
  rintro e w3 ⟨rfl, hb⟩
  have HB3 := Lib.hid (bthen HB2.out hb)
  clear hb k0 k1 k2
  go_wp2
  go_ret2
  exact ⟨rfl, HB3.out⟩
set_option maxRecDepth 100000 in
theorem spec_RootedParts_ok (ns : List Nat) (v : Value) (w : World) (h : Sl cI w v (li ns)) (hr : RelN ns) (hc : scd ns.length (li ns) = 0) (h6 : ns.length ≤ 6) :
    Calls Tryz.prog 6 #[.agg #[.int .i64 (ns.length : Int), v]] w fun e w' => ∃ u, e = .returned (.tuple #[u, .int .i64 0]) ∧ ObP w.heap.size w'.heap.size w' u (fro (rpt ns)) ∧ Below w.heap.size w w' := by
  obtain ⟨A0, c0, rfl⟩ := h.opn
  have EL := Lib.hid (li_length ns)
  rw [EL.out] at h ⊢
  have HS := Lib.hid (fun g W (hW : Blk W g 29 #[.int .i64 (ns.length : Int), .slice A0 ns.length c0]) (hX : Sl cI W (.slice A0 ns.length c0) (li ns)) => spec_l34Code1 g c0 ns.length 1 A0 ns.length (li ns) W (hW.cell 0) (hW.cell 1) hW.lt hX (by rw [EL.out]; omega))
  rw [hc] at HS
  have HR := Lib.hid (fun W (hX : Sl cI W (.slice A0 ns.length c0) (li ns)) => spec_l34Parts ns _ W hX hr h6)
  have HX := Lib.hid h
  clear h hc hr
  go_enter Tryz.func6, Tryz.ntmps6
  go_upto_region 1 with fail
  have K1 := Lib.hid (Blk.new w 29 #[.int .i64 (ns.length : Int), .slice A0 ns.length c0])
  have HB1 := Lib.hid (below_alloc' w (.cells #[.int .i64 (ns.length : Int), .slice A0 ns.length c0] 29))
  have HX1 := Lib.hid (HX.out.below HB1.out)
  generalize World.alloc w _ = w1 at *
  have K2 := Lib.hid (Blk.new w1 29 #[.int .i64 (ns.length : Int), .slice A0 ns.length c0])
  have hb2 := below_alloc' w1 (.cells #[.int .i64 (ns.length : Int), .slice A0 ns.length c0] 29)
  have HX2 := Lib.hid (HX1.out.below hb2)
  have HB2 := Lib.hid (bthen HB1.out hb2)
  have K12 := Lib.hid (K1.out.below hb2 K1.out.lt)
  clear hb2
  have k0 := K1.out.cell 0
  have k1 := K1.out.cell 1
  have k2 := K1.out.lt
  go_wp2_with fail
  refine (HS.out _ _ K2.out HX2.out).mono ?_
  rintro e w3 ⟨rfl, hb⟩
  have HB3 := Lib.hid (bthen HB2.out hb)
  have HX3 := Lib.hid (HX2.out.below hb)
  have K3 := Lib.hid (K12.out.below hb K12.out.lt)
  clear hb k0 k1 k2 K12
  have k0 := K3.out.cell 0
  have k1 := K3.out.cell 1
  have k2 := K3.out.lt
  go_wp2_with fail
  refine (HR.out _ HX3.out).mono ?_
  rintro e w4 ⟨u, rfl, ho, hb⟩
  have HO := Lib.hid ((ho.mono HB3.out.size).obp)
  have HB4 := Lib.hid (bthen HB3.out hb)
  clear ho hb k0 k1 k2
  go_wp2
  go_ret2
  exact ⟨_, rfl, HO.out, HB4.out⟩
end Go.Proofs.YtkdldfomdbgcaaaGreat

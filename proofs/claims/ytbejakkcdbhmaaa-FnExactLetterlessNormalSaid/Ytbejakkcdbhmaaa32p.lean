/- Contracts of TraceOf, of the program and of the reference. -/
import Derived.Test.Ytbejakkcdbhmaaa32o
namespace Go.Proofs.Ytbejakkcdbhmaaa
open Go.RowKit
set_option linter.unusedVariables false
set_option linter.unusedSimpArgs false
theorem row_map (f : Fm) : row f = (List.range 61).map (rk f 0) := rfl
theorem impl_TraceOf_bad (v : Value) (xs : List Nd) (w : World) (h : Sl cN w v xs) (hl : xs.length ≤ 1048576) (hc : lcode [xs] ≠ 0) :
    Calls Try.prog 123 #[v] w fun e w' => e = .returned (.tuple #[.agg #[.bool false, .slice none 0 0], .int .i64 (lcode [xs])]) ∧ Below w.heap.size w w' := by
  obtain ⟨A, c, rfl⟩ := h.opn
  have H1 := Lib.hid (impl_lcode1 xs (w.alloc (.cells #[.bool false, .slice none 0 0] 52)) (h.alloc _) hl (w.heap.size + 1) (by simp))
  have hc' : (lcode [xs] != 0) = true := by simpa using hc
  generalize lcode [xs] = k at *
  clear h hc
  go_enter Try.func123, Try.ntmps123
  go_wp2_with fail
  refine H1.out.mono ?_
  rintro e w1 ⟨rfl, hb⟩
  obtain ⟨k1, k2, k3⟩ := kept_blk hb
  have HB : Hid (Below w.heap.size w w1) := Lib.hid (((Below.refl _ _).alloc (Nat.le_refl _) _).trans (hb.mono (by simp)))
  clear hb
  go_wp2
  refine bodyPost_ret (v := .tuple #[.agg #[.bool false, .slice none 0 0], .int .i64 k]) (by simp [results, Try.results123, go_sem, k1, k2, k3]) rfl ⟨rfl, ?_⟩
  exact (HB.out.setCell (Nat.le_refl _) _).setCell (Nat.le_refl _) _
theorem impl_TraceOf_ok (v : Value) (f : Fm) (w : World) (h : Sl cN w v (enc f)) (hl : (enc f).length ≤ 40) (hc : lcode [enc f] = 0) :
    Calls Try.prog 123 #[v] w fun e w' => ∃ u, e = .returned (.tuple #[.agg #[.bool (!rk f 0 60), u], .int .i64 0]) ∧ Ow cI 2 w.heap.size w' u (trOf (rk f 0)) ∧ Below w.heap.size w w' := by
  have HR := Lib.hid (fun W (hW : Sl cN W v (enc f)) => impl_ranksOf f v 0 W (by decide) hW (by omega))
  obtain ⟨A, c, rfl⟩ := h.opn
  have H1 := impl_lcode1 (enc f) (w.alloc (.cells #[.bool false, .slice none 0 0] 52)) (h.alloc _) (by omega) (w.heap.size + 1) (by simp)
  rw [hc] at H1
  have H1 := Lib.hid H1
  have Hh := Lib.hid h
  clear h hc
  generalize (enc f).length = L at *
  go_enter Try.func123, Try.ntmps123
  go_wp2_with fail
  refine H1.out.mono ?_
  rintro e w1 ⟨rfl, hb⟩
  go_wp2_with fail
  refine (HR.out _ ((Hh.out.alloc _).below hb)).mono ?_
  rintro e w2 ⟨rfl, rfl⟩
  go_wp2_with fail
  refine (impl_traceOf (rk f 0) _).mono ?_
  rintro e w2 ⟨u, rfl, ho, hb2⟩
  obtain ⟨A2, c2, rfl⟩ := ho.opn
  obtain ⟨k1, k2, k3⟩ := kept_blk (bthen hb hb2)
  have hsz := hb.size
  simp at hsz
  have HO := Lib.hid ho
  have HB : Hid (Below w.heap.size w w2) := Lib.hid (((Below.refl _ _).alloc (Nat.le_refl _) _).trans ((bthen hb hb2).mono (by simp)))
  clear hb hb2 ho
  go_wp2
  refine bodyPost_ret (v := .tuple #[.agg #[.bool (!rk f 0 60), .slice A2 (trOf (rk f 0)).length c2], .int .i64 0]) (by simp [results, Try.results123, go_sem, k1, k2, k3]) rfl ⟨_, rfl, ?_, ?_⟩
  · exact ((HO.out.setBelow (by show w.heap.size < w1.heap.size; omega) _).setBelow (by show w.heap.size < w1.heap.size; omega) _).mono (by omega)
  · exact (HB.out.setCell (Nat.le_refl _) _).setCell (Nat.le_refl _) _
end Go.Proofs.Ytbejakkcdbhmaaa

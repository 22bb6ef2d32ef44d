/- The laws' own functions on Posets in the one form. -/
import Derived.Test.YtkdldfomdbgcaaaGreatLB
namespace Go.Proofs.YtkdldfomdbgcaaaGreat
open Go.RowKit
set_option linter.unusedVariables false
set_option linter.unusedSimpArgs false
theorem u_sz_Poset (b : Int) (v : Value) (xs : List Int) (l : Int) (w : World) (h : Sl cI w v xs) (hl : -1 ≤ l ∧ l ≤ 1048576) :
    Calls Tryz.prog 5 #[.agg #[.int .i64 b, v], .int .i64 l] w fun e w' => e = .returned (.int .i64 (szL l xs.length)) ∧ Below w.heap.size w w' := by
  have H1 := Lib.hid (u_sz_SI v xs l _ (h.alloc (.cells #[.int .i64 b, v] 24)) hl)
  rcases (show l - xs.length < 0 ∨ ¬ l - xs.length < 0 by omega) with q | q
  · rw [szL_neg q] at *
    clear h
    go_enter Tryz.func5, Tryz.ntmps5
    go_wp2_with fail
    refine H1.out.mono ?_
    rintro e w1 ⟨rfl, hb⟩
    have HB := Lib.hid (((Below.refl _ _).alloc (Nat.le_refl _) _).trans (hb.mono (by simp))); clear hb
    go_wp2
    go_ret
    exact ⟨rfl, HB.out⟩
  · rw [szL_pos q] at *
    clear h
    go_enter Tryz.func5, Tryz.ntmps5
    go_wp2_with fail
    refine H1.out.mono ?_
    rintro e w1 ⟨rfl, hb⟩
    have HB := Lib.hid (((Below.refl _ _).alloc (Nat.le_refl _) _).trans (hb.mono (by simp))); clear hb
    have q' : (decide (l - ↑xs.length < 0)) = false := decide_eq_false (by omega)
    go_wp2
    go_ret
    exact ⟨rfl, HB.out⟩
theorem u_eq_Poset (b : Int) (v u : Value) (xs : List Int) (w : World) (hx : Sl cI w v xs) (hy : Sl cI w u xs) (hn : xs.length ≤ 268435456) :
    Calls Tryz.prog 10 #[.agg #[.int .i64 b, v], .agg #[.int .i64 b, u]] w fun e w' => e = .returned (.bool true) ∧ Below w.heap.size w w' := by
  go_enter Tryz.func10, Tryz.ntmps10
  go_wp2_with fail
  refine (eq_int64S _ _ xs xs _ ((hx.alloc _).alloc _) ((hy.alloc _).alloc _) (by omega)).mono ?_
  rintro e w1 ⟨rfl, q, rfl⟩
  go_wp2
  go_ret
  exact ⟨rfl, by repeat (first | exact Below.refl _ _ | refine Below.alloc ?_ (by simp <;> omega) _ | refine below_drewN ?_ _)⟩
theorem u_mark_Poset (b : Int) (v : Value) (xs : List Int) (k : Int) (B H : Nat) (w : World) (h : Ob cI 2 B H w v xs) (hl : xs.length ≤ 268435456) (hk : 0 ≤ k ∧ k ≤ 268435456) :
    Calls Tryz.prog 11 #[.agg #[.int .i64 b, v], .int .i64 k] w fun e w' => e = .returned (.int .i64 (k + xs.length)) ∧ Ob cI 2 B H w' v (numL xs.length k) ∧ Keep B H w w' := by
  have key : Calls Tryz.prog 11 #[.agg #[.int .i64 b, v], .int .i64 k] w fun e w' => e = .returned (.int .i64 (k + xs.length)) ∧ Ow cI 2 B w' v (numL xs.length k) ∧ w.grownBy w' v.ownBlock := by
    have hO := h.1
    clear h
    go_enter Tryz.func11, Tryz.ntmps11
    go_wp2_with fail
    refine (mark_int64S _ xs _ B _ (hO.alloc _) (by omega) (by omega)).mono ?_
    rintro e w1 ⟨rfl, ho, hg⟩
    have G := Lib.hid (grown_alloc _ hg); clear hg
    have O := Lib.hid ho; clear ho
    go_wp2
    go_ret
    exact ⟨rfl, O.out, G.out⟩
  exact key.mono fun e w' ⟨he, ho, hg⟩ => ⟨he, h.inv ho, Keep.of_grown hg fun g hk => ⟨(h.1.block g hk).1, h.2 g hk⟩⟩
theorem u_to_Poset (b : Int) (v : Value) (xs : List Int) (w : World) (h : Sl cI w v xs) (hl : xs.length ≤ 1048576) :
    Calls Tryz.prog 7 #[.agg #[.int .i64 b, v]] w fun e w' => ∃ u, e = .returned (.agg #[.int .i64 b, u]) ∧ Ob cI 2 w.heap.size w'.heap.size w' u xs ∧ Below w.heap.size w w' := by
  have H1 := Lib.hid (fun W (hW : Sl cI W v xs) => u_to_SI v xs W hW hl)
  have Hh := Lib.hid h
  clear h
  go_enter Tryz.func7, Tryz.ntmps7
  go_wp2_with fail
  refine (H1.out _ (((Hh.out.alloc _).alloc _).alloc _)).mono ?_
  rintro e w1 ⟨u, rfl, ho, hb⟩
  obtain ⟨A1, c1, rfl⟩ := ho.opn
  have f1 : Blk w1 (w.heap.size + 1) 29 #[.int .i64 0, .slice none 0 0] := ((Blk.new' (w.alloc (.cells #[.int .i64 b, v] 24)) 29 #[.int .i64 0, .slice none 0 0] (by simp)).alloc _).below hb (by simp)
  have f2 : Blk w1 (w.heap.size + 1 + 1) 29 #[.int .i64 b, .slice none 0 0] := (Blk.new' _ 29 #[.int .i64 b, .slice none 0 0] (by simp)).below hb (by simp)
  obtain ⟨k1, k2, k3⟩ := And.intro f1.cell (And.intro f1.frozen f1.lt)
  obtain ⟨j1, j2, j3⟩ := And.intro f2.cell (And.intro f2.frozen f2.lt)
  have HO := Lib.hid ho
  have hsz := hb.size
  simp at hsz
  have HB : Hid (Below w.heap.size w w1) := Lib.hid (((((Below.refl _ _).alloc (Nat.le_refl _) _).alloc (by simp) _).alloc (by simp <;> omega) _).trans (hb.mono (by simp <;> omega)))
  clear hb ho f1 f2
  go_wp2
  refine bodyPost_ret (v := .agg #[.int .i64 b, .slice A1 xs.length c1]) (by simp [results, Tryz.results7, go_sem, k1, k2, k3, j1, j2, j3]) rfl ⟨_, rfl, ?_, ?_⟩
  · have HO' : Ow cI 2 (w.heap.size + 3) w1 (.slice A1 xs.length c1) xs := by have := HO.out.1; simpa using this
    exact ((((HO'.setBelow (by show w.heap.size + 1 + 1 < w.heap.size + 3; omega) _).setBelow (by show w.heap.size + 1 < w.heap.size + 3; omega) _).setBelow (by show w.heap.size + 1 < w.heap.size + 3; omega) _).mono (by omega)).ob
  · exact ((HB.out.setCell (by show w.heap.size ≤ w.heap.size + 1 + 1; omega) _).setCell (by show w.heap.size ≤ w.heap.size + 1; omega) _).setCell (by show w.heap.size ≤ w.heap.size + 1; omega) _
end Go.Proofs.YtkdldfomdbgcaaaGreat

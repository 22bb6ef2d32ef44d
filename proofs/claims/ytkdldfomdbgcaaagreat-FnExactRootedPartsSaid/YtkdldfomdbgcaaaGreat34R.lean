/- Contracts of chapter 34, of the program: arePosets and sixCode at one order. -/
import Derived.Test.YtkdldfomdbgcaaaGreat34O
namespace Go.Proofs.YtkdldfomdbgcaaaGreat
open Go.RowKit
set_option linter.unusedVariables false
set_option linter.unusedSimpArgs false
theorem slices_IndexFunc_poset1 (g c m d : Nat) (A : Option Addr) (n : Int) (k : FuncId) (r : Bool) (w : World) (h0 : w.cell? ⟨g, 0, none⟩ = some (.int .i64 n)) (h1 : w.cell? ⟨g, 1, none⟩ = some (.slice A m d)) (hl : g < w.heap.size)
    (hk : ∀ (args : Array Value) (w : World), (callFunc k args).run Tryz.prog w = .ok (.enter k args) w)
    (hf : Calls Tryz.prog k #[.agg #[.int .i64 n, .slice A m d]] w fun e w' => e = .returned (.bool r) ∧ Below w.heap.size w w') :
    Calls Tryz.prog 77 #[.slice (some ⟨g, 0, none⟩) 1 c, .func (.func k) #[] #[]] w fun e w' => ∃ i : Int, e = .returned (.int .i64 i) ∧ decide (0 ≤ i) = r ∧ Below w.heap.size w w' := by
  have HF := Lib.hid hf; clear hf
  go_enter Tryz.func77, Tryz.ntmps77
  go_wp2
  refine wp_loop_rounds 2 ?_
  rw [rounds_succ]
  go_wp2_with fail
  refine HF.out.mono ?_
  rintro e w1 ⟨rfl, hb⟩
  have HB := Lib.hid hb
  clear hb
  cases r
  · go_wp2
    rw [rounds_succ]
    go_wp2
    go_ret
    exact ⟨-1, rfl, by decide, HB.out⟩
  · go_wp2
    go_ret
    exact ⟨0, rfl, by decide, HB.out⟩
theorem slices_ContainsFunc_poset1 (g c m d : Nat) (A : Option Addr) (n : Int) (k : FuncId) (r : Bool) (w : World) (h0 : w.cell? ⟨g, 0, none⟩ = some (.int .i64 n)) (h1 : w.cell? ⟨g, 1, none⟩ = some (.slice A m d)) (hl : g < w.heap.size)
    (hk : ∀ (args : Array Value) (w : World), (callFunc k args).run Tryz.prog w = .ok (.enter k args) w)
    (hf : Calls Tryz.prog k #[.agg #[.int .i64 n, .slice A m d]] w fun e w' => e = .returned (.bool r) ∧ Below w.heap.size w w') :
    Calls Tryz.prog 48 #[.slice (some ⟨g, 0, none⟩) 1 c, .func (.func k) #[] #[]] w fun e w' => e = .returned (.bool r) ∧ Below w.heap.size w w' := by
  have HC := Lib.hid (slices_IndexFunc_poset1 g c m d A n k r w h0 h1 hl hk hf)
  clear hf hk h0 h1
  go_enter Tryz.func48, Tryz.ntmps48
  go_wp2_with fail
  refine HC.out.mono ?_
  rintro e w1 ⟨i, rfl, hr, hb⟩
  have HR := Lib.hid hr; clear hr
  have HB := Lib.hid hb; clear hb
  go_wp2
  go_ret
  exact ⟨by rw [← HR.out]; rfl, HB.out⟩
theorem en_arePosets_1 : ∀ (args : Array Value) (w : World), (callFunc 75 args).run Tryz.prog w = .ok (.enter 75 args) w := enters Tryz.func75 (by kernel_rfl) (by kernel_rfl)
theorem impl_arePosets_1 (n : Int) (v : Value) (xs : List Int) (w : World) (h : Sl cI w v xs) (hl : xs.length ≤ 1073741824) :
    Calls Tryz.prog 75 #[.agg #[.int .i64 n, v]] w fun e w' => e = .returned (.bool (!psOk n xs)) ∧ Below w.heap.size w w' := by
  obtain ⟨A0, c0, rfl⟩ := h.opn
  have hb := below_alloc' w (.cells #[.int .i64 n, .slice A0 xs.length c0] 29)
  have HP := Lib.hid (fun W (hW : Sl cI W (.slice A0 xs.length c0) xs) => impl_isPoset n _ xs W hW hl)
  have HX := Lib.hid (h.below hb)
  have HB := Lib.hid hb
  have K1 := Lib.hid (Blk.new w 29 #[.int .i64 n, .slice A0 xs.length c0])
  clear h hb
  go_enter Tryz.func75, Tryz.ntmps75
  go_upto_region 1 with fail
  generalize World.alloc w _ = w1 at *
  have a0 := K1.out.cell 0
  have a1 := K1.out.cell 1
  have a2 := K1.out.lt
  go_wp2_with fail
  refine (HP.out _ HX.out).mono ?_
  rintro e w2 ⟨rfl, hb⟩
  have HB2 := Lib.hid (bthen HB.out hb)
  clear hb a0 a1 a2
  go_wp2
  go_ret
  exact ⟨rfl, HB2.out⟩
theorem en_sixCode_1 : ∀ (args : Array Value) (w : World), (callFunc 49 args).run Tryz.prog w = .ok (.enter 49 args) w := enters Tryz.func49 (by kernel_rfl) (by kernel_rfl)
theorem impl_sixCode_1 (n : Int) (A : Option Addr) (m d : Nat) (w : World) :
    Calls Tryz.prog 49 #[.agg #[.int .i64 n, .slice A m d]] w fun e w' => e = .returned (.bool (decide (6 < n))) ∧ Below w.heap.size w w' := by
  have hb := below_alloc' w (.cells #[.int .i64 n, .slice A m d] 29)
  have HB := Lib.hid hb
  have K1 := Lib.hid (Blk.new w 29 #[.int .i64 n, .slice A m d])
  clear hb
  go_enter Tryz.func49, Tryz.ntmps49
  go_upto_region 1 with fail
  generalize World.alloc w _ = w1 at *
  have a0 := K1.out.cell 0
  have a2 := K1.out.lt
  go_wp2
  go_ret
  exact ⟨rfl, HB.out⟩
theorem impl_arePosets (g c m d : Nat) (A : Option Addr) (n : Int) (xs : List Int) (w : World) (h0 : w.cell? ⟨g, 0, none⟩ = some (.int .i64 n)) (h1 : w.cell? ⟨g, 1, none⟩ = some (.slice A m d)) (hg : g < w.heap.size) (h : Sl cI w (.slice A m d) xs) (hl : xs.length ≤ 1073741824) :
    Calls Tryz.prog 47 #[.slice (some ⟨g, 0, none⟩) 1 c] w fun e w' => e = .returned (.int .i64 (if psOk n xs then 0 else 1)) ∧ Below w.heap.size w w' := by
  have HC := Lib.hid (slices_ContainsFunc_poset1 g c m d A n 75 (!psOk n xs) w h0 h1 hg en_arePosets_1 (impl_arePosets_1 n _ xs w h hl))
  clear h0 h1 h
  generalize psOk n xs = r at *
  go_enter Tryz.func47, Tryz.ntmps47
  go_wp2_with fail
  refine HC.out.mono ?_
  rintro e w1 ⟨rfl, hb⟩
  have HB := Lib.hid hb; clear hb
  cases r
  · go_wp2
    go_ret
    exact ⟨rfl, HB.out⟩
  · go_wp2
    go_ret
    exact ⟨rfl, HB.out⟩
theorem impl_sixCode (g c m d : Nat) (A : Option Addr) (n : Int) (xs : List Int) (w : World) (h0 : w.cell? ⟨g, 0, none⟩ = some (.int .i64 n)) (h1 : w.cell? ⟨g, 1, none⟩ = some (.slice A m d)) (hg : g < w.heap.size) (h : Sl cI w (.slice A m d) xs) (hl : xs.length ≤ 1073741824) :
    Calls Tryz.prog 27 #[.slice (some ⟨g, 0, none⟩) 1 c] w fun e w' => e = .returned (.int .i64 (if psOk n xs then (if 6 < n then 3 else 0) else 1)) ∧ Below w.heap.size w w' := by
  have HA := Lib.hid (impl_arePosets g c m d A n xs w h0 h1 hg h hl)
  have HC := Lib.hid (fun W (hW : Below w.heap.size w W) => slices_ContainsFunc_poset1 g c m d A n 49 (decide (6 < n)) W ((hW.cell (p := ⟨g, 0, none⟩) hg).trans h0) ((hW.cell (p := ⟨g, 1, none⟩) hg).trans h1) (Nat.lt_of_lt_of_le hg hW.size) en_sixCode_1 (impl_sixCode_1 n A m d W))
  clear h0 h1 h
  generalize psOk n xs = r at *
  go_enter Tryz.func27, Tryz.ntmps27
  go_wp2_with fail
  refine HA.out.mono ?_
  rintro e w1 ⟨rfl, hb⟩
  have HB := Lib.hid hb; clear hb
  cases r
  · go_wp2
    go_ret
    exact ⟨rfl, HB.out⟩
  · by_cases h6 : 6 < n
    · rw [decide_eq_true h6] at HC
      go_wp2_with fail
      refine (HC.out _ HB.out).mono ?_
      rintro e w2 ⟨rfl, hb⟩
      have HB2 := Lib.hid (bthen HB.out hb); clear hb
      go_wp2
      go_ret
      exact ⟨by simp [h6], HB2.out⟩
    · rw [decide_eq_false h6] at HC
      go_wp2_with fail
      refine (HC.out _ HB.out).mono ?_
      rintro e w2 ⟨rfl, hb⟩
      have HB2 := Lib.hid (bthen HB.out hb); clear hb
      go_wp2
      go_ret
      exact ⟨by simp [h6], HB2.out⟩
end Go.Proofs.YtkdldfomdbgcaaaGreat

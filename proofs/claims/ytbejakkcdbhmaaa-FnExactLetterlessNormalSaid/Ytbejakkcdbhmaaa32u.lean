/- Contracts of IsLetterlessTheorem, IsTrueSentence, FirstFalseRank and AreLetterlessEqual, of the program and of the reference. -/
import Derived.Test.Ytbejakkcdbhmaaa32q
namespace Go.Proofs.Ytbejakkcdbhmaaa
open Go.RowKit
set_option linter.unusedVariables false
set_option linter.unusedSimpArgs false
set_option maxRecDepth 100000 in
theorem spec_fld0 (a b : Value) (w : World) : Sem.run Try.prog (Instr.field 52 (Value.agg #[a, b]) 0) w = .ok a w := by
  first | rfl | kernel_rfl | (simp [go_sem]; done)
set_option maxRecDepth 100000 in
theorem spec_fld1 (a b : Value) (w : World) : Sem.run Try.prog (Instr.field 52 (Value.agg #[a, b]) 1) w = .ok b w := by
  first | rfl | kernel_rfl | (simp [go_sem]; done)
/-- what FirstFalseRank says -/
def ffOut (p : Nat → Bool) : Int × Int := if ffI p < 0 then (0, 4) else (ffI p, 0)
theorem ffI_some (p : Nat → Bool) (j : Nat) (hj : j < 61) (h : ∀ n < j, p n = true) (hp : p j = false) : ffI p = j := by
  have hf : (List.range 61).find? (fun n => !p n) = some j := by
    rw [List.find?_eq_some_iff_append]
    refine ⟨by rw [hp]; rfl, List.range j, List.range' (j + 1) (60 - j), ?_, fun a ha => by rw [h a (List.mem_range.1 ha)]; rfl⟩
    obtain ⟨d, hd⟩ : ∃ d, 60 - j = d := ⟨_, rfl⟩
    rw [hd, ← List.range'_succ, List.range_eq_range', List.range_eq_range', show (61 : Nat) = j + (d + 1) by omega]
    have := List.range'_append (s := 0) (m := j) (n := d + 1) (step := 1)
    rw [← this]
    simp
  unfold ffI
  rw [hf]
theorem ffI_none (p : Nat → Bool) (h : ∀ n < 61, p n = true) : ffI p = -1 := by
  have hf : (List.range 61).find? (fun n => !p n) = none := by
    rw [List.find?_eq_none]
    intro n hn
    rw [h n (List.mem_range.1 hn)]
    decide
  unfold ffI
  rw [hf]
theorem impl_lcode2 {A B : Option Addr} {n c m d : Nat} (xs ys : List Nd) (w : World) (h : Sl cN w (.slice A n c) xs) (h' : Sl cN w (.slice B m d) ys) (hl : xs.length ≤ 1048576) (hl' : ys.length ≤ 1048576) (g : Nat) (hg : g = w.heap.size) :
    Calls Try.prog 198 #[.slice (some ⟨g, 0, none⟩) 2 2] (w.alloc (.cells #[.slice A n c, .slice B m d] 24)) fun e w' => e = .returned (.int .i64 (lcode [xs, ys])) ∧ Below w.heap.size w w' := by
  subst hg
  exact (impl_letterlessCode _ [xs, ys] _ (Sl2.two h h' 24) (by simp) (by simp [hl, hl'])).mono fun e w' ⟨he, hb⟩ => ⟨he, ((Below.refl _ _).alloc (Nat.le_refl _) _).trans (hb.mono (by simp))⟩
theorem spec_lcode2 {A B : Option Addr} {n c m d : Nat} (xs ys : List Nd) (w : World) (h : Sl cN w (.slice A n c) xs) (h' : Sl cN w (.slice B m d) ys) (hl : xs.length ≤ 1048576) (hl' : ys.length ≤ 1048576) (g : Nat) (hg : g = w.heap.size) :
    Calls Try.prog 119 #[.slice (some ⟨g, 0, none⟩) 2 2] (w.alloc (.cells #[.slice A n c, .slice B m d] 24)) fun e w' => e = .returned (.int .i64 (lcode [xs, ys])) ∧ Below w.heap.size w w' := by
  subst hg
  exact (spec_l32Code _ [xs, ys] _ (Sl2.two h h' 24) (by simp) (by simp [hl, hl'])).mono fun e w' ⟨he, hb⟩ => ⟨he, ((Below.refl _ _).alloc (Nat.le_refl _) _).trans (hb.mono (by simp))⟩
end Go.Proofs.Ytbejakkcdbhmaaa

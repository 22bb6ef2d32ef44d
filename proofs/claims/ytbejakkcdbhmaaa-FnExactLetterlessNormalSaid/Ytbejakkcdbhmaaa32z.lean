/- Contracts of BoxTrace and what it calls, of the program and of the reference. -/
import Derived.Test.Ytbejakkcdbhmaaa32y
namespace Go.Proofs.Ytbejakkcdbhmaaa
open Go.RowKit
set_option linter.unusedVariables false
set_option linter.unusedSimpArgs false
def shL (n : Nat) : List Int := (List.range n).map fun (i : Nat) => (i : Int)
theorem shL_length (n : Nat) : (shL n).length = n := by simp [shL]
theorem shL_snoc (n : Nat) : shL (n + 1) = shL n ++ [(n : Int)] := by simp [shL, List.range_succ]
theorem spec_l01Has (v : Value) (xs : List Int) (x : Int) (w : World) (h : Sl cI w v xs) (hl : xs.length ≤ 1048576) :
    Calls Try.prog 202 #[v, .int .i64 x] w fun e w' => e = .returned (.bool (decide (x ∈ xs))) ∧ w = w' := by
  obtain ⟨A, c, rfl⟩ := h.opn
  have H := Lib.hid h; clear h
  go_enter Try.func202, Try.ntmps202
  go_wp2
  go_loop [5] (fun i => ∃ j : Nat, j ≤ xs.length ∧ i = .int .i64 j ∧ x ∉ xs.take j) (fun i => xs.length - (intOf i).toNat)
  case atStart => exact ⟨0, Nat.zero_le _, rfl, by simp⟩
  case round =>
    obtain ⟨j, hj, rfl, hh⟩ := hrel
    have Hh := Lib.hid hh; clear hh
    by_cases hlt : j < xs.length
    · obtain ⟨g, o, rfl, hb, hc0⟩ := H.out.atI hlt
      by_cases hx : xs[j] = x
      · have hx' : (xs[j] == x) = true := by simpa using hx
        have HM : Hid (decide (x ∈ xs) = true) := Lib.hid (by rw [← hx]; simp)
        clear hx
        go_wp2
        go_ret
        exact ⟨by rw [HM.out]; rfl, rfl⟩
      · have hx' : (xs[j] == x) = false := by simpa using hx
        have HM : Hid (x ∉ xs.take (j + 1)) := Lib.hid (by
          rw [List.take_succ_eq_append_getElem hlt, List.mem_append, List.mem_singleton]
          rintro (h | h)
          · exact Hh.out h
          · exact hx h.symm)
        clear hx
        go_wp2
        go_round
        case rel => exact ⟨j + 1, by omega, by go_num, HM.out⟩
        case measure => simp [intOf]; omega
    · obtain rfl : j = xs.length := by omega
      have HM : Hid (decide (x ∈ xs) = false) := Lib.hid (by have := Hh.out; rw [List.take_length] at this; exact decide_eq_false this)
      go_wp2
      go_ret
      exact ⟨by rw [HM.out]; rfl, rfl⟩
theorem q_l01Has {v : Value} {xs : List Int} {W : World} (h : Sl cI W v xs) (hl : xs.length ≤ 1048576) (x : Int) (n : Nat) :
    Calls Try.prog 202 #[v, .int .i64 x] (W.drewN n) fun e w'' => e = .returned (.bool (decide (x ∈ xs))) ∧ ∃ m, w'' = W.drewN m :=
  (spec_l01Has v xs x _ (h.drewN n) hl).mono fun e w' hh => ⟨hh.1, n, hh.2.symm⟩
theorem spec_l32Has (v : Value) (b : Bool) (xs : List Int) (x : Int) (w : World) (h : Sl cI w v xs) (hl : xs.length ≤ 1048576) :
    Calls Try.prog 126 #[.agg #[.bool b, v], .int .i64 x] w fun e w' => e = .returned (.bool (decide (x ∈ xs) == b)) ∧ Below w.heap.size w w' := by
  obtain ⟨A, c, rfl⟩ := h.opn
  have HB : Hid (Below w.heap.size w (w.alloc (.cells #[.bool b, .slice A xs.length c] 52))) := Lib.hid ((Below.refl _ _).alloc (Nat.le_refl _) _)
  have HQ := Lib.hid (fun n => q_l01Has (h.alloc (.cells #[.bool b, .slice A xs.length c] 52)) hl x n)
  clear h
  go_enter Try.func126, Try.ntmps126
  go_wp2
  go_quiet ((go_at_call 202; exact HQ.out _))
  go_wp2
  go_ret
  exact ⟨rfl, below_drewN HB.out _⟩
/-- the first rank that does not belong to a Trace, as the reference seeks it: to 62 -/
def fsT (b : Bool) (xs : List Int) : Nat → Nat → Nat
  | 0, n => n
  | k + 1, n => if (decide ((n : Int) ∈ xs) == b) = true then fsT b xs k (n + 1) else n
theorem fsT_le (b : Bool) (xs : List Int) (k : Nat) : ∀ n, fsT b xs k n ≤ n + k := by
  induction k with
  | zero => intro n; simp [fsT]
  | succ k ih => intro n; rw [fsT]; split; have := ih (n + 1); omega; omega
end Go.Proofs.Ytbejakkcdbhmaaa

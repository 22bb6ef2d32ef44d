/- Contracts of chapter 2's functions on formulas, of the program and of the reference. -/
import Derived.Test.Ytbejakkcdbhmaaa01
namespace Go.Proofs.Ytbejakkcdbhmaaa
open Go.RowKit
set_option linter.unusedVariables false
set_option linter.unusedSimpArgs false

theorem Sl.atN {w : World} {A : Option Addr} {n c : Nat} {xs : List Nd} (h : Sl cN w (.slice A n c) xs) {k : Nat} (hk : k < xs.length) :
    ∃ b o, A = some ⟨b, o, none⟩ ∧ b < w.heap.size ∧ w.cell? ⟨b, o + k * 2, none⟩ = some (.int .i64 xs[k].1) ∧ w.cell? ⟨b, o + k * 2 + 1, none⟩ = some (.int .i64 xs[k].2) := by
  obtain ⟨b, o, hA, hb, hc⟩ := h.cell hk
  exact ⟨b, o, hA, hb, hc 0 _ rfl, hc 1 _ rfl⟩
theorem impl_partsOf (k : Int) (w : World) :
    Calls Try.prog 248 #[.int .i64 k] w fun e w' => e = .returned (.int .i64 (parts k)) ∧ w = w' := by
  by_cases h2 : k = 2
  · subst h2
    go_enter Try.func248, Try.ntmps248
    go_wp2
    go_ret
    exact ⟨rfl, rfl⟩
  by_cases h3 : k = 3
  · subst h3
    go_enter Try.func248, Try.ntmps248
    go_wp2
    go_ret
    exact ⟨rfl, rfl⟩
  by_cases h4 : k = 4
  · subst h4
    go_enter Try.func248, Try.ntmps248
    go_wp2
    go_ret
    exact ⟨rfl, rfl⟩
  by_cases h5 : k = 5
  · subst h5
    go_enter Try.func248, Try.ntmps248
    go_wp2
    go_ret
    exact ⟨rfl, rfl⟩
  by_cases h6 : k = 6
  · subst h6
    go_enter Try.func248, Try.ntmps248
    go_wp2
    go_ret
    exact ⟨rfl, rfl⟩
  have e : parts k = 0 := by simp [parts, h2, h3, h4, h5, h6]
  have E := Lib.hid e; clear e
  go_enter Try.func248, Try.ntmps248
  go_wp2
  go_ret
  exact ⟨by rw [E.out]; rfl, rfl⟩
theorem spec_l02Parts (k : Int) (w : World) :
    Calls Try.prog 161 #[.int .i64 k] w fun e w' => e = .returned (.int .i64 (parts k)) ∧ w = w' := by
  by_cases h2 : k = 2
  · subst h2
    go_enter Try.func161, Try.ntmps161
    go_wp2
    go_ret
    exact ⟨rfl, rfl⟩
  by_cases h3 : k = 3
  · subst h3
    go_enter Try.func161, Try.ntmps161
    go_wp2
    go_ret
    exact ⟨rfl, rfl⟩
  by_cases h4 : k = 4
  · subst h4
    go_enter Try.func161, Try.ntmps161
    go_wp2
    go_ret
    exact ⟨rfl, rfl⟩
  by_cases h5 : k = 5
  · subst h5
    go_enter Try.func161, Try.ntmps161
    go_wp2
    go_ret
    exact ⟨rfl, rfl⟩
  by_cases h6 : k = 6
  · subst h6
    go_enter Try.func161, Try.ntmps161
    go_wp2
    go_ret
    exact ⟨rfl, rfl⟩
  have e : parts k = 0 := by simp [parts, h2, h3, h4, h5, h6]
  have E := Lib.hid e; clear e
  go_enter Try.func161, Try.ntmps161
  go_wp2
  go_ret
  exact ⟨by rw [E.out]; rfl, rfl⟩
theorem impl_isVariable (x : Int) (w : World) :
    Calls Try.prog 80 #[.int .i64 x] w fun e w' => e = .returned (.bool (inR x 0 5)) ∧ w = w' := by
  go_enter Try.func80, Try.ntmps80
  go_wp2_with fail
  refine (impl_inRange _ _ _ _).mono ?_
  rintro e w1 ⟨rfl, rfl⟩
  go_wp2
  go_ret
  exact ⟨rfl, rfl⟩
theorem impl_isNode (k s : Int) (w : World) :
    Calls Try.prog 166 #[.agg #[.int .i64 k, .int .i64 s]] w fun e w' => e = .returned (.bool (isNd (k, s))) ∧ Below w.heap.size w w' := by
  by_cases hk : k = 0
  · subst hk
    have e : isNd (0, s) = inR s 0 5 := by simp [isNd]
    have E := Lib.hid e; clear e
    go_enter Try.func166, Try.ntmps166
    go_wp2_with fail
    refine (impl_isVariable _ _).mono ?_
    rintro e w1 ⟨rfl, rfl⟩
    go_wp2
    go_ret
    exact ⟨by rw [E.out]; rfl, (Below.refl _ _).alloc (Nat.le_refl _) _⟩
  · by_cases hr : inR k 1 6 = true
    · have e : isNd (k, s) = (s == 0) := by simp [isNd, hk, hr]; rw [Bool.eq_iff_iff]; simp
      have E := Lib.hid e; clear e
      have HR := Lib.hid hr; clear hr
      go_enter Try.func166, Try.ntmps166
      go_wp2_with fail
      refine (impl_inRange _ _ _ _).mono ?_
      rintro e w1 ⟨rfl, rfl⟩
      rw [HR.out]
      go_wp2
      go_ret
      exact ⟨by rw [E.out]; rfl, (Below.refl _ _).alloc (Nat.le_refl _) _⟩
    · rw [Bool.not_eq_true] at hr
      have e : isNd (k, s) = false := by simp [isNd, hk, hr]
      have E := Lib.hid e; clear e
      have HR := Lib.hid hr; clear hr
      go_enter Try.func166, Try.ntmps166
      go_wp2_with fail
      refine (impl_inRange _ _ _ _).mono ?_
      rintro e w1 ⟨rfl, rfl⟩
      rw [HR.out]
      go_wp2
      go_ret
      exact ⟨by rw [E.out]; rfl, (Below.refl _ _).alloc (Nat.le_refl _) _⟩
theorem impl_isFormula_1 (k s : Int) (w : World) :
    Calls Try.prog 165 #[.agg #[.int .i64 k, .int .i64 s]] w fun e w' => e = .returned (.bool (!isNd (k, s))) ∧ Below w.heap.size w w' := by
  go_enter Try.func165, Try.ntmps165
  go_wp2_with fail
  refine (impl_isNode _ _ _).mono ?_
  rintro e w1 ⟨rfl, hb⟩
  have HB : Hid (Below w.heap.size w w1) := Lib.hid (((Below.refl _ _).alloc (Nat.le_refl _) _).trans (hb.mono (by simp)))
  clear hb
  go_wp2
  go_ret
  exact ⟨rfl, HB.out⟩
theorem impl_partEnd (v : Value) (xs : List Nd) (i : Nat) (w : World) (h : Sl cN w v xs) (hl : xs.length ≤ 1073741824) (hi : i ≤ 1073741824) :
    Calls Try.prog 167 #[v, .int .i64 i] w fun e w' => e = .returned (.int .i64 (pe (xs.drop i) 1 i)) ∧ w = w' := by
  obtain ⟨A, c, rfl⟩ := h.opn
  go_enter Try.func167, Try.ntmps167
  go_wp2
  go_loop [1, 5] (fun t op => ∃ (j : Nat) (q : Int), j ≤ 1073741824 + xs.length ∧ 0 ≤ q ∧ q ≤ j + 1 ∧ t = .int .i64 j ∧ op = .int .i64 q ∧ pe (xs.drop i) 1 i = pe (xs.drop j) q j ∧ (j ≤ i ∨ j ≤ xs.length)) (fun t _ => 1073741824 + xs.length + 1 - (intOf t).toNat)
  case atStart => exact ⟨i, 1, by omega, by omega, by omega, rfl, rfl, rfl, by omega⟩
  case round =>
    obtain ⟨j, q, hj, hq, hq2, rfl, rfl, hh, hor⟩ := hrel
    have Hh := Lib.hid hh; clear hh
    by_cases hop : 0 < q
    · by_cases hlt : j < xs.length
      · obtain ⟨b, o, rfl, hb, hc0, hc1⟩ := h.atN hlt
        have hp := parts_range xs[j].1
        go_wp2_with fail
        refine (impl_partsOf _ _).mono ?_
        rintro e w1 ⟨rfl, rfl⟩
        have E := Lib.hid (pe_step (l := xs) (op := q) (i := (j : Int)) hlt hop)
        go_wp2
        go_round
        case rel => exact ⟨j + 1, q + (parts xs[j].1 - 1), by omega, by omega, by omega, by go_num, rfl, by rw [Hh.out, E.out]; rfl, by omega⟩
        case measure => simp [intOf]; omega
      · go_wp2
        go_ret
        exact ⟨by rw [Hh.out, pe_out (by omega) hop]; rfl, rfl⟩
    · go_wp2
      go_ret
      exact ⟨by rw [Hh.out, pe_done _ _ (by omega)]; rfl, rfl⟩
theorem spec_l02Part (v : Value) (xs : List Nd) (i : Nat) (w : World) (h : Sl cN w v xs) (hl : xs.length ≤ 1073741824) (hi : i ≤ 1073741824) :
    Calls Try.prog 188 #[v, .int .i64 i] w fun e w' => e = .returned (.int .i64 (pe (xs.drop i) 1 i)) ∧ w = w' := by
  obtain ⟨A, c, rfl⟩ := h.opn
  go_enter Try.func188, Try.ntmps188
  go_wp2
  go_loop [1, 5] (fun t op => ∃ (j : Nat) (q : Int), j ≤ 1073741824 + xs.length ∧ 0 ≤ q ∧ q ≤ j + 1 ∧ t = .int .i64 j ∧ op = .int .i64 q ∧ pe (xs.drop i) 1 i = pe (xs.drop j) q j ∧ (j ≤ i ∨ j ≤ xs.length)) (fun t _ => 1073741824 + xs.length + 1 - (intOf t).toNat)
  case atStart => exact ⟨i, 1, by omega, by omega, by omega, rfl, rfl, rfl, by omega⟩
  case round =>
    obtain ⟨j, q, hj, hq, hq2, rfl, rfl, hh, hor⟩ := hrel
    have Hh := Lib.hid hh; clear hh
    by_cases hop : 0 < q
    · by_cases hlt : j < xs.length
      · obtain ⟨b, o, rfl, hb, hc0, hc1⟩ := h.atN hlt
        have hp := parts_range xs[j].1
        go_wp2_with fail
        refine (spec_l02Parts _ _).mono ?_
        rintro e w1 ⟨rfl, rfl⟩
        have E := Lib.hid (pe_step (l := xs) (op := q) (i := (j : Int)) hlt hop)
        go_wp2
        go_round
        case rel => exact ⟨j + 1, q + (parts xs[j].1 - 1), by omega, by omega, by omega, by go_num, by go_num, by rw [Hh.out, E.out]; rfl, by omega⟩
        case measure => simp [intOf]; omega
      · go_wp2
        go_ret
        exact ⟨by rw [Hh.out, pe_out (by omega) hop]; rfl, rfl⟩
    · go_wp2
      go_ret
      exact ⟨by rw [Hh.out, pe_done _ _ (by omega)]; rfl, rfl⟩
end Go.Proofs.Ytbejakkcdbhmaaa

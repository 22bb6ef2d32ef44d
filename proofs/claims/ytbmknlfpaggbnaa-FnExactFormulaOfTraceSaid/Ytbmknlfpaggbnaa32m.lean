/- Contracts of IsTrueAtRank, IsLetterlessTheorem and AreLetterlessEqual, of the program and of the reference. -/
import Derived.Test.Ytbmknlfpaggbnaa32l
import Derived.Test.Ytbmknlfpaggbnaa32t
namespace Go.Proofs.Ytbmknlfpaggbnaa
open Go.RowKit
set_option linter.unusedVariables false
set_option linter.unusedSimpArgs false
theorem vmask_zero (xs : List Nd) : vmask xs = 0 → ∀ n ∈ xs, n.1 ≠ 0 := by
  have key : ∀ (xs : List Nd) (m : Nat), xs.foldl (fun m n => if n.1 = 0 then m ||| 2 ^ n.2.toNat else m) m = 0 → m = 0 ∧ ∀ n ∈ xs, n.1 ≠ 0 := by
    intro xs
    induction xs with
    | nil => intro m h; exact ⟨h, fun n hn => by cases hn⟩
    | cons x t ih =>
      intro m h
      rw [List.foldl_cons] at h
      obtain ⟨h1, h2⟩ := ih _ h
      by_cases hx : x.1 = 0
      · rw [if_pos hx, or_eq_zero] at h1
        have := Nat.pow_pos (n := x.2.toNat) (show 0 < 2 by decide)
        omega
      · rw [if_neg hx] at h1
        refine ⟨h1, fun n hn => ?_⟩
        rcases List.mem_cons.1 hn with rfl | hn
        · exact hx
        · exact h2 n hn
  intro h
  exact (key xs 0 h).2
theorem novar_of (f : Fm) (h : ∀ n ∈ enc f, n.1 ≠ 0) : f.novar = true := by
  induction f with
  | var s => exact absurd rfl (h (0, (s : Int)) (by simp [enc]))
  | fls => rfl
  | bin k a b iha ihb =>
    simp only [Fm.novar, Bool.and_eq_true]
    exact ⟨iha fun n hn => h n (by simp [enc, hn]), ihb fun n hn => h n (by simp [enc, hn])⟩
  | un k a ih => exact ih fun n hn => h n (by simp [enc, hn])
theorem letterless_fm {xs : List Nd} (h : isF xs = true) (h2 : letterless xs = true) : ∃ f : Fm, xs = enc f ∧ f.novar = true ∧ (enc f).length ≤ 40 := by
  obtain ⟨f, _, rfl, hl⟩ := (isF_iff xs).1 h
  exact ⟨f, rfl, novar_of f (vmask_zero _ (by simpa [letterless] using h2)), hl⟩
theorem lcode_one {xs : List Nd} (h : lcode [xs] = 0) : ∃ f : Fm, xs = enc f ∧ f.novar = true ∧ (enc f).length ≤ 40 := by
  simp only [lcode, List.all_cons, List.all_nil, Bool.and_true] at h
  by_cases h1 : isF xs = true
  · by_cases h2 : letterless xs = true
    · exact letterless_fm h1 h2
    · rw [if_pos h1, if_neg h2] at h; exact absurd h (by decide)
  · rw [if_neg h1] at h; exact absurd h (by decide)
/-- a code of formulas that have to be letterless, out of one formula laid as a list -/
theorem impl_lcode1 {A : Option Addr} {n c : Nat} (xs : List Nd) (w : World) (h : Sl cN w (.slice A n c) xs) (hl : xs.length ≤ 1048576) (g : Nat) (hg : g = w.heap.size) :
    Calls Try.prog 82 #[.slice (some ⟨g, 0, none⟩) 1 1] (w.alloc (.cells #[.slice A n c] 44)) fun e w' => e = .returned (.int .i64 (lcode [xs])) ∧ Below w.heap.size w w' := by
  subst hg
  exact (impl_letterlessCode _ [xs] _ (Sl2.one h 44) (by simp) (by simpa using hl)).mono fun e w' ⟨he, hb⟩ => ⟨he, ((Below.refl _ _).alloc (Nat.le_refl _) _).trans (hb.mono (by simp))⟩
theorem spec_lcode1 {A : Option Addr} {n c : Nat} (xs : List Nd) (w : World) (h : Sl cN w (.slice A n c) xs) (hl : xs.length ≤ 1048576) (g : Nat) (hg : g = w.heap.size) :
    Calls Try.prog 80 #[.slice (some ⟨g, 0, none⟩) 1 1] (w.alloc (.cells #[.slice A n c] 44)) fun e w' => e = .returned (.int .i64 (lcode [xs])) ∧ Below w.heap.size w w' := by
  subst hg
  exact (spec_l32Code _ [xs] _ (Sl2.one h 44) (by simp) (by simpa using hl)).mono fun e w' ⟨he, hb⟩ => ⟨he, ((Below.refl _ _).alloc (Nat.le_refl _) _).trans (hb.mono (by simp))⟩
theorem impl_IsTrueAtRank_bad (v : Value) (xs : List Nd) (n : Int) (w : World) (h : Sl cN w v xs) (hl : xs.length ≤ 1048576) (hc : lcode [xs] ≠ 0) :
    Calls Try.prog 39 #[v, .int .i64 n] w fun e w' => e = .returned (.tuple #[.bool false, .int .i64 (lcode [xs])]) ∧ Below w.heap.size w w' := by
  obtain ⟨A, c, rfl⟩ := h.opn
  have H1 := Lib.hid (impl_lcode1 xs w h hl _ rfl)
  have hc' : (lcode [xs] != 0) = true := by simpa using hc
  generalize lcode [xs] = k at *
  clear h hc
  go_enter Try.func39, Try.ntmps39
  go_wp2_with fail
  refine H1.out.mono ?_
  rintro e w1 ⟨rfl, hb⟩
  have HB := Lib.hid hb; clear hb
  go_wp2
  go_ret2
  exact ⟨rfl, HB.out⟩
theorem impl_IsTrueAtRank_rng (v : Value) (xs : List Nd) (n : Int) (w : World) (h : Sl cN w v xs) (hl : xs.length ≤ 1048576) (hc : lcode [xs] = 0) (hn : inR n 0 60 = false) :
    Calls Try.prog 39 #[v, .int .i64 n] w fun e w' => e = .returned (.tuple #[.bool false, .int .i64 2]) ∧ Below w.heap.size w w' := by
  obtain ⟨A, c, rfl⟩ := h.opn
  have H1 := impl_lcode1 xs w h hl _ rfl
  rw [hc] at H1
  have H1 := Lib.hid H1
  have HN := Lib.hid hn
  clear h hc hn
  go_enter Try.func39, Try.ntmps39
  go_wp2_with fail
  refine H1.out.mono ?_
  rintro e w1 ⟨rfl, hb⟩
  have HB := Lib.hid hb; clear hb
  go_wp2_with fail
  refine (impl_inRange _ _ _ _).mono ?_
  rintro e w2 ⟨rfl, rfl⟩
  rw [HN.out]
  go_wp2
  go_ret2
  exact ⟨rfl, HB.out⟩
theorem impl_IsTrueAtRank_ok (v : Value) (f : Fm) (n : Nat) (w : World) (h : Sl cN w v (enc f)) (hl : (enc f).length ≤ 40) (hc : lcode [enc f] = 0) (hn : n ≤ 60) :
    Calls Try.prog 39 #[v, .int .i64 n] w fun e w' => e = .returned (.tuple #[.bool (rk f 0 n), .int .i64 0]) ∧ Below w.heap.size w w' := by
  have HR := Lib.hid (fun W (hW : Sl cN W v (enc f)) => impl_ranksOf f v 0 W (by decide) hW (by omega))
  obtain ⟨A, c, rfl⟩ := h.opn
  have H1 := impl_lcode1 (enc f) w h (by omega) _ rfl
  rw [hc] at H1
  have H1 := Lib.hid H1
  have HN := Lib.hid (inR_true (x := (n : Int)) (l := 0) (h := 60) (by omega) (by omega))
  have hlt := msk_lt (rk f 0) 61
  have E : Hid ((bits .and .i64 ((msk (rk f 0) 61 : Nat) / 2 ^ n) 1 == 1) = rk f 0 n) := by
    show _ = _
    rw [testBit_form _ _ (by omega), msk_testBit, decide_eq_true (by omega), Bool.true_and]
  have Hh := Lib.hid h
  clear h hc
  generalize (enc f).length = L at *
  generalize msk (rk f 0) 61 = q at *
  go_enter Try.func39, Try.ntmps39
  go_wp2_with fail
  refine H1.out.mono ?_
  rintro e w1 ⟨rfl, hb⟩
  have HB := Lib.hid hb; clear hb
  go_wp2_with fail
  refine (impl_inRange _ _ _ _).mono ?_
  rintro e w2 ⟨rfl, rfl⟩
  rw [HN.out]
  go_wp2_with fail
  refine (HR.out _ (Hh.out.below HB.out)).mono ?_
  rintro e w2 ⟨rfl, rfl⟩
  go_wp2
  go_ret2
  exact ⟨by rw [← E.out]; rfl, HB.out⟩
theorem spec_IsTrueAtRank_bad (v : Value) (xs : List Nd) (n : Int) (w : World) (h : Sl cN w v xs) (hl : xs.length ≤ 1048576) (hc : lcode [xs] ≠ 0) :
    Calls Try.prog 38 #[v, .int .i64 n] w fun e w' => e = .returned (.tuple #[.bool false, .int .i64 (lcode [xs])]) ∧ Below w.heap.size w w' := by
  obtain ⟨A, c, rfl⟩ := h.opn
  have H1 := Lib.hid (spec_lcode1 xs w h hl _ rfl)
  have hc' : (lcode [xs] != 0) = true := by simpa using hc
  generalize lcode [xs] = k at *
  clear h hc
  go_enter Try.func38, Try.ntmps38
  go_wp2_with fail
  refine H1.out.mono ?_
  rintro e w1 ⟨rfl, hb⟩
  have HB := Lib.hid hb; clear hb
  go_wp2
  go_ret2
  exact ⟨rfl, HB.out⟩
theorem spec_IsTrueAtRank_rng (v : Value) (xs : List Nd) (n : Int) (w : World) (h : Sl cN w v xs) (hl : xs.length ≤ 1048576) (hc : lcode [xs] = 0) (hn : inR n 0 60 = false) :
    Calls Try.prog 38 #[v, .int .i64 n] w fun e w' => e = .returned (.tuple #[.bool false, .int .i64 2]) ∧ Below w.heap.size w w' := by
  obtain ⟨A, c, rfl⟩ := h.opn
  have H1 := spec_lcode1 xs w h hl _ rfl
  rw [hc] at H1
  have H1 := Lib.hid H1
  have HN := Lib.hid hn
  clear h hc hn
  go_enter Try.func38, Try.ntmps38
  go_wp2_with fail
  refine H1.out.mono ?_
  rintro e w1 ⟨rfl, hb⟩
  have HB := Lib.hid hb; clear hb
  go_wp2_with fail
  refine (spec_l01In _ _ _ _).mono ?_
  rintro e w2 ⟨rfl, rfl⟩
  rw [HN.out]
  go_wp2
  go_ret2
  exact ⟨rfl, HB.out⟩
theorem spec_IsTrueAtRank_ok (v : Value) (f : Fm) (n : Nat) (w : World) (h : Sl cN w v (enc f)) (hl : (enc f).length ≤ 40) (hc : lcode [enc f] = 0) (hn : n ≤ 60) (hv : f.novar = true) :
    Calls Try.prog 38 #[v, .int .i64 n] w fun e w' => e = .returned (.tuple #[.bool (rk f 0 n), .int .i64 0]) ∧ Below w.heap.size w w' := by
  have HR := Lib.hid (fun W (hW : Sl cN W v (enc f)) => spec_l32Row f hv (by omega) v W hW)
  obtain ⟨A, c, rfl⟩ := h.opn
  have H1 := spec_lcode1 (enc f) w h (by omega) _ rfl
  rw [hc] at H1
  have H1 := Lib.hid H1
  have HN := Lib.hid (inR_true (x := (n : Int)) (l := 0) (h := 60) (by omega) (by omega))
  have Hh := Lib.hid h
  clear h hc
  generalize (enc f).length = L at *
  go_enter Try.func38, Try.ntmps38
  go_wp2_with fail
  refine H1.out.mono ?_
  rintro e w1 ⟨rfl, hb⟩
  have HB := Lib.hid hb; clear hb
  go_wp2_with fail
  refine (spec_l01In _ _ _ _).mono ?_
  rintro e w2 ⟨rfl, rfl⟩
  rw [HN.out]
  go_wp2_with fail
  refine (HR.out _ (Hh.out.below HB.out)).mono ?_
  rintro e w2 ⟨u, rfl, ho, hb2⟩
  have HB2 := Lib.hid (bthen HB.out hb2)
  obtain ⟨A2, c2, rfl⟩ := ho.opn
  obtain ⟨g, rfl, -, -⟩ := ho.head (by rw [row_length]; omega)
  obtain ⟨hx, -, -, -⟩ := ho.at1 rfl (j := n) (by rw [row_length]; omega) rfl
  rw [row_get] at hx
  clear ho hb2
  rw [row_length]
  have hn2 : (n : Int) < 61 := by omega
  go_wp2
  go_ret2
  exact ⟨rfl, HB2.out⟩
end Go.Proofs.Ytbmknlfpaggbnaa

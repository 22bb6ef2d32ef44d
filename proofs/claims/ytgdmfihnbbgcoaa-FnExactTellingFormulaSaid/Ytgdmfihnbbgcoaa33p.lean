/- Contracts of chapter 33: copies and comparisons of formulas, both sides. -/
import Derived.Test.YtgdmfihnbbgcoaaFr
namespace Go.Proofs.Ytgdmfihnbbgcoaa
open Go.RowKit
set_option linter.unusedVariables false
set_option linter.unusedSimpArgs false
theorem slices_Clone_node (v : Value) (xs : List Nd) (w : World) (h : Sl cN w v xs) (hl : xs.length ≤ 1048576) :
    Calls Try.prog 127 #[v] w fun e w' => ∃ u, e = .returned u ∧ Ow cN 89 w.heap.size w' u xs ∧ Below w.heap.size w w' := by
  obtain ⟨A, c, rfl⟩ := h.opn
  by_cases hA : A = none
  · subst hA
    obtain rfl := h.none_nil
    have hq := fun W : World => Lib.run_eql_slice_nil (P := Try.prog) W 26 89 none 0 c 0 0 Try.underlying26
    go_enter Try.func127, Try.ntmps127
    go_wp2_with (at_builtin; refine stopHere ?_)
    go_ret
    exact ⟨_, rfl, Ow.nil _ _, Below.refl _ _⟩
  · obtain ⟨ad, rfl⟩ := Option.ne_none_iff_exists'.1 hA
    clear hA
    have hq := fun W : World => Lib.run_eql_slice_nil (P := Try.prog) W 26 89 (some ad) xs.length c 0 0 Try.underlying26
    go_enter Try.func127, Try.ntmps127
    go_wp2_with (at_builtin; refine stopHere ?_)
    refine goHere ?_
    refine ap_sl (K := cN) _ ty_node rfl _ _ rfl rfl rfl (B := w.heap.size) (xs := []) (news := xs) (Ow.lit [] rfl rfl (Nat.le_refl _)) (h.alloc _) (by simp <;> omega) (by simp) ?_
    intro v1 w1 ho hg hb hat
    have hb' : Below w.heap.size w w1 := ((Below.refl _ _).alloc (Nat.le_refl _) _).trans hb
    have O := Lib.hid ho; clear ho hg hb hat
    go_wp2
    go_ret
    exact ⟨_, rfl, O.out, hb'⟩
theorem impl_clone (v : Value) (xs : List Nd) (w : World) (h : Sl cN w v xs) (hl : xs.length ≤ 1048576) :
    Calls Try.prog 62 #[v] w fun e w' => ∃ u, e = .returned u ∧ Ow cN 89 w.heap.size w' u xs ∧ Below w.heap.size w w' := by
  have HC := Lib.hid (slices_Clone_node v xs w h hl)
  clear h
  go_enter Try.func62, Try.ntmps62
  go_wp2_with fail
  refine HC.out.mono ?_
  rintro e w1 ⟨u, rfl, ho, hb⟩
  have O := Lib.hid ho; clear ho
  go_wp2
  go_ret
  exact ⟨_, rfl, O.out, hb⟩
theorem slices_Equal_node (v u : Value) (xs ys : List Nd) (w : World) (hx : Sl cN w v xs) (hy : Sl cN w u ys) (hl : xs.length ≤ 1073741824) (hl2 : ys.length ≤ 1073741824) :
    Calls Try.prog 190 #[v, u] w fun e w' => e = .returned (.bool (decide (xs = ys))) ∧ Below w.heap.size w w' := by
  obtain ⟨A, c, rfl⟩ := hx.opn
  obtain ⟨B, d, rfl⟩ := hy.opn
  by_cases hne : ys.length = xs.length
  · rw [hne] at hy ⊢
    have HL := Lib.hid hne
    go_enter Try.func190, Try.ntmps190
    go_wp2
    go_loopw [13] (fun i wr => ∃ j : Nat, j ≤ xs.length ∧ i = .int .i64 j ∧ (∀ k (h1 : k < xs.length) (h2 : k < ys.length), k < j → xs[k] = ys[k]) ∧ Below w.heap.size w wr) (fun i _ => xs.length - (intOf i).toNat)
    case atStart => exact ⟨0, Nat.zero_le _, rfl, fun k _ _ h => by omega, Below.refl _ _⟩
    case round =>
      obtain ⟨j, hj, rfl, hh, hb⟩ := hrel
      have Hh := Lib.hid hh; clear hh
      have HB := Lib.hid hb
      by_cases hlt : j < xs.length
      · have hlt2 : j < ys.length := by rw [HL.out]; exact hlt
        obtain ⟨b, o, rfl, hbl, hc0, hc1⟩ := (hx.below hb).atN hlt
        obtain ⟨b2, o2, rfl, hbl2, hd0, hd1⟩ := (hy.below hb).atN hlt2
        by_cases he : xs[j] = ys[j]
        · have HS : Hid (∀ k (h1 : k < xs.length) (h2 : k < ys.length), k < j + 1 → xs[k] = ys[k]) := Lib.hid fun k h1 h2 h3 => by
            rcases Nat.lt_or_ge k j with h | h
            · exact Hh.out k h1 h2 h
            · obtain rfl : k = j := by omega
              exact he
          have hnq := run_neq_node xs[j].1 xs[j].2 ys[j].1 ys[j].2
          have hd : (!(xs[j].1 == ys[j].1 && xs[j].2 == ys[j].2)) = false := by rw [he]; simp
          have hng := run_eqg_node
          rw [hd] at hnq
          generalize xs[j] = x at *
          generalize ys[j] = y at *
          clear hb hd he
          go_wp2
          go_quiet (fail)
          go_wp2
          go_roundw
          case rel => exact ⟨j + 1, by omega, by go_num, HS.out, below_drewN HB.out _⟩
          case measure => simp [intOf]; omega
        · have HE : Hid (decide (xs = ys) = false) := Lib.hid (decide_eq_false fun h => he (by subst h; rfl))
          have hnq := run_neq_node xs[j].1 xs[j].2 ys[j].1 ys[j].2
          have hd : (!(xs[j].1 == ys[j].1 && xs[j].2 == ys[j].2)) = true := by
            rw [Bool.not_eq_true', Bool.eq_false_iff]
            intro h
            simp only [Bool.and_eq_true, beq_iff_eq] at h
            exact he (Prod.ext h.1 h.2)
          have hng := run_eqg_node
          rw [hd] at hnq
          generalize xs[j] = x at *
          generalize ys[j] = y at *
          clear hb hd he
          go_wp2
          go_quiet (fail)
          go_wp2
          go_ret
          exact ⟨by rw [HE.out]; rfl, below_drewN HB.out _⟩
      · have HE : Hid (decide (xs = ys) = true) := Lib.hid (decide_eq_true (List.ext_getElem HL.out.symm fun k h1 h2 => Hh.out k h1 h2 (by omega)))
        clear hb
        go_wp2
        go_ret
        exact ⟨by rw [HE.out]; rfl, HB.out⟩
  · have HE : Hid (decide (xs = ys) = false) := Lib.hid (decide_eq_false fun h => hne (by rw [h]))
    have hn2 : ¬ ((xs.length : Int) = (ys.length : Int)) := by omega
    have hn3 : ((xs.length : Int) != (ys.length : Int)) = true := by simpa using hn2
    clear hx hy
    go_enter Try.func190, Try.ntmps190
    go_wp2
    go_ret
    exact ⟨by rw [HE.out]; rfl, Below.refl _ _⟩
theorem impl_same (v u : Value) (xs ys : List Nd) (w : World) (hx : Sl cN w v xs) (hy : Sl cN w u ys) (hl : xs.length ≤ 1073741824) (hl2 : ys.length ≤ 1073741824) :
    Calls Try.prog 126 #[v, u] w fun e w' => e = .returned (.bool (decide (xs = ys))) ∧ Below w.heap.size w w' := by
  have HC := Lib.hid (slices_Equal_node v u xs ys w hx hy hl hl2)
  clear hx hy
  go_enter Try.func126, Try.ntmps126
  go_wp2_with fail
  refine HC.out.mono ?_
  rintro e w1 ⟨rfl, hb⟩
  go_wp2
  go_ret
  exact ⟨rfl, hb⟩
theorem spec_l02Equal (v u : Value) (xs ys : List Nd) (w : World) (hx : Sl cN w v xs) (hy : Sl cN w u ys) (hl : xs.length ≤ 1073741824) (hl2 : ys.length ≤ 1073741824) :
    Calls Try.prog 111 #[v, u] w fun e w' => e = .returned (.bool (decide (xs = ys))) ∧ Below w.heap.size w w' := by
  obtain ⟨A, c, rfl⟩ := hx.opn
  obtain ⟨B, d, rfl⟩ := hy.opn
  by_cases hne : ys.length = xs.length
  · rw [hne] at hy ⊢
    have HL := Lib.hid hne
    go_enter Try.func111, Try.ntmps111
    go_wp2
    go_loopw [5] (fun i wr => ∃ j : Nat, j ≤ xs.length ∧ i = .int .i64 j ∧ (∀ k (h1 : k < xs.length) (h2 : k < ys.length), k < j → xs[k] = ys[k]) ∧ Below w.heap.size w wr) (fun i _ => xs.length - (intOf i).toNat)
    case atStart => exact ⟨0, Nat.zero_le _, rfl, fun k _ _ h => by omega, Below.refl _ _⟩
    case round =>
      obtain ⟨j, hj, rfl, hh, hb⟩ := hrel
      have Hh := Lib.hid hh; clear hh
      have HB := Lib.hid hb
      by_cases hlt : j < xs.length
      · have hlt2 : j < ys.length := by rw [HL.out]; exact hlt
        obtain ⟨b, o, rfl, hbl, hc0, hc1⟩ := (hx.below hb).atN hlt
        obtain ⟨b2, o2, rfl, hbl2, hd0, hd1⟩ := (hy.below hb).atN hlt2
        by_cases he : xs[j] = ys[j]
        · have HS : Hid (∀ k (h1 : k < xs.length) (h2 : k < ys.length), k < j + 1 → xs[k] = ys[k]) := Lib.hid fun k h1 h2 h3 => by
            rcases Nat.lt_or_ge k j with h | h
            · exact Hh.out k h1 h2 h
            · obtain rfl : k = j := by omega
              exact he
          have hnq := run_neq_node xs[j].1 xs[j].2 ys[j].1 ys[j].2
          have hd : (!(xs[j].1 == ys[j].1 && xs[j].2 == ys[j].2)) = false := by rw [he]; simp
          have hng := run_eqg_node
          rw [hd] at hnq
          generalize xs[j] = x at *
          generalize ys[j] = y at *
          clear hb hd he
          go_wp2
          go_quiet (fail)
          go_wp2
          go_roundw
          case rel => exact ⟨j + 1, by omega, by go_num, HS.out, below_drewN HB.out _⟩
          case measure => simp [intOf]; omega
        · have HE : Hid (decide (xs = ys) = false) := Lib.hid (decide_eq_false fun h => he (by subst h; rfl))
          have hnq := run_neq_node xs[j].1 xs[j].2 ys[j].1 ys[j].2
          have hd : (!(xs[j].1 == ys[j].1 && xs[j].2 == ys[j].2)) = true := by
            rw [Bool.not_eq_true', Bool.eq_false_iff]
            intro h
            simp only [Bool.and_eq_true, beq_iff_eq] at h
            exact he (Prod.ext h.1 h.2)
          have hng := run_eqg_node
          rw [hd] at hnq
          generalize xs[j] = x at *
          generalize ys[j] = y at *
          clear hb hd he
          go_wp2
          go_quiet (fail)
          go_wp2
          go_ret
          exact ⟨by rw [HE.out]; rfl, below_drewN HB.out _⟩
      · have HE : Hid (decide (xs = ys) = true) := Lib.hid (decide_eq_true (List.ext_getElem HL.out.symm fun k h1 h2 => Hh.out k h1 h2 (by omega)))
        clear hb
        go_wp2
        go_ret
        exact ⟨by rw [HE.out]; rfl, HB.out⟩
  · have HE : Hid (decide (xs = ys) = false) := Lib.hid (decide_eq_false fun h => hne (by rw [h]))
    have hn2 : ¬ ((xs.length : Int) = (ys.length : Int)) := by omega
    have hn3 : ((xs.length : Int) != (ys.length : Int)) = true := by simpa using hn2
    clear hx hy
    go_enter Try.func111, Try.ntmps111
    go_wp2
    go_ret
    exact ⟨by rw [HE.out]; rfl, Below.refl _ _⟩
def isun : Fm → Bool
  | .un _ _ => true
  | _ => false
theorem isun_head (f : Fm) : ∃ (k s : Int) (t : List Nd), enc f = (k, s) :: t ∧ isun f = (k == 5 || k == 6) := by
  cases f with
  | var s => exact ⟨0, s, [], rfl, rfl⟩
  | fls => exact ⟨1, 0, [], rfl, rfl⟩
  | bin k a b => exact ⟨k.i, 0, _, rfl, by cases k <;> rfl⟩
  | un k a => exact ⟨k.i, 0, _, rfl, by cases k <;> rfl⟩
theorem spec_l33Modal (f : Fm) (v : Value) (w : World) (h : Sl cN w v (enc f)) :
    Calls Try.prog 110 #[v] w fun e w' => e = .returned (.bool (isun f)) ∧ w = w' := by
  obtain ⟨k, s, t, he, hk⟩ := isun_head f
  obtain ⟨A, c, rfl⟩ := h.opn
  rw [he] at h
  rw [he]
  obtain ⟨b, o, rfl, hb, hc0, hc1⟩ := h.atN0
  have hL0 : 0 < ((k, s) :: t).length := by simp
  clear h he
  generalize ((k, s) :: t).length = L at *
  have HQ := Lib.hid hk
  clear hk
  simp only at hc0
  by_cases h5 : k = 5
  · subst h5
    go_enter Try.func110, Try.ntmps110
    go_wp2
    go_ret
    exact ⟨by rw [HQ.out]; rfl, rfl⟩
  · have h5' : (k == 5) = false := by simpa using h5
    rw [h5', Bool.false_or] at HQ
    go_enter Try.func110, Try.ntmps110
    go_wp2
    go_ret
    exact ⟨by rw [HQ.out]; rfl, rfl⟩
end Go.Proofs.Ytgdmfihnbbgcoaa

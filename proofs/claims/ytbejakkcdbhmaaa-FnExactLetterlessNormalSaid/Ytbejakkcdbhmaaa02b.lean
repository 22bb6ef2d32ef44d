/- Contracts of chapter 2, more: is a list a formula? -/
import Derived.Test.Ytbejakkcdbhmaaa02
namespace Go.Proofs.Ytbejakkcdbhmaaa
open Go.RowKit
set_option linter.unusedVariables false
set_option linter.unusedSimpArgs false
/-- a call of a function of the program's own enters it -/
theorem enters {P : Program} {k : FuncId} {fn : Func} (hf : P.funcs[k]? = some fn) (hn : (fn.name == "runtime.NumGoroutine") = false) (hb : fn.body.isNone = false) :
    ∀ (args : Array Value) (w : World), (callFunc k args).run P w = .ok (.enter k args) w := by
  intro args w
  have h1 : fn.name ≠ "runtime.NumGoroutine" := by simpa using hn
  have h2 : fn.body ≠ none := fun e => by rw [e] at hb; cases hb
  simp [callFunc, hf, program, Sem.run, h1, h2]
theorem slices_IndexFunc_node (v : Value) (xs : List Nd) (k : FuncId) (cap : Array Value) (p : Nd → Bool) (w : World) (h : Sl cN w v xs) (hl : xs.length ≤ 1073741824)
    (hk : ∀ (args : Array Value) (w : World), (callFunc k args).run Try.prog w = .ok (.enter k args) w)
    (hf : ∀ w', Below w.heap.size w w' → ∀ (a b : Int), Calls Try.prog k (#[.agg #[.int .i64 a, .int .i64 b]] ++ cap) w' fun e w'' => e = .returned (.bool (p (a, b))) ∧ Below w'.heap.size w' w'') :
    Calls Try.prog 247 #[v, .func (.func k) #[] cap] w fun e w' => ∃ r : Int, e = .returned (.int .i64 r) ∧ (decide (0 ≤ r) = xs.any p) ∧ Below w.heap.size w w' := by
  obtain ⟨A, c, rfl⟩ := h.opn
  have HF := Lib.hid hf; clear hf
  go_enter Try.func247, Try.ntmps247
  go_wp2
  go_loopw [8] (fun i wr => ∃ j : Nat, j ≤ xs.length ∧ i = .int .i64 j ∧ (xs.take j).any p = false ∧ Below w.heap.size w wr) (fun i _ => xs.length - (intOf i).toNat)
  case atStart => exact ⟨0, Nat.zero_le _, rfl, rfl, Below.refl _ _⟩
  case round =>
    obtain ⟨j, hj, rfl, hh, hb⟩ := hrel
    have Hh := Lib.hid hh; clear hh
    by_cases hlt : j < xs.length
    · obtain ⟨b, o, rfl, hbl, hc0, hc1⟩ := (h.below hb).atN hlt
      go_wp2_with fail
      refine (HF.out wr hb _ _).mono ?_
      rintro e w1 ⟨rfl, hb1⟩
      have HB : Hid (Below w.heap.size w w1) := Lib.hid (hb.trans (hb1.mono hb.size))
      have HT : Hid ((xs.take (j + 1)).any p = p (xs[j].1, xs[j].2)) := by
        show _ = _
        rw [List.take_succ_eq_append_getElem hlt, List.any_append, Hh.out]
        simp
      have HM : xs[j] ∈ xs := List.getElem_mem hlt
      have HA : Hid (p (xs[j].1, xs[j].2) = true → xs.any p = true) := fun h1 => List.any_eq_true.2 ⟨_, HM, h1⟩
      clear hb1 hb HM
      by_cases hp : p (xs[j].1, xs[j].2) = true
      · rw [hp]
        have HP := Lib.hid hp; clear hp
        go_wp2
        go_ret
        exact ⟨j, rfl, by rw [HA.out HP.out]; simp, HB.out⟩
      · rw [Bool.not_eq_true] at hp
        rw [hp]
        have HP := Lib.hid hp; clear hp
        go_wp2
        go_roundw
        case rel => exact ⟨j + 1, by omega, by go_num, by rw [HT.out, HP.out], HB.out⟩
        case measure => simp [intOf]; omega
    · have HE : Hid (xs.any p = false) := by
        have := Hh.out
        rw [List.take_of_length_le (by omega)] at this
        exact this
      have HB := Lib.hid hb; clear hb
      go_wp2
      go_ret
      exact ⟨-1, rfl, by rw [HE.out]; decide, HB.out⟩
theorem slices_ContainsFunc_node (v : Value) (xs : List Nd) (k : FuncId) (cap : Array Value) (p : Nd → Bool) (w : World) (h : Sl cN w v xs) (hl : xs.length ≤ 1073741824)
    (hk : ∀ (args : Array Value) (w : World), (callFunc k args).run Try.prog w = .ok (.enter k args) w)
    (hf : ∀ w', Below w.heap.size w w' → ∀ (a b : Int), Calls Try.prog k (#[.agg #[.int .i64 a, .int .i64 b]] ++ cap) w' fun e w'' => e = .returned (.bool (p (a, b))) ∧ Below w'.heap.size w' w'') :
    Calls Try.prog 164 #[v, .func (.func k) #[] cap] w fun e w' => e = .returned (.bool (xs.any p)) ∧ Below w.heap.size w w' := by
  have HC := Lib.hid (slices_IndexFunc_node v xs k cap p w h hl hk hf); clear hf hk
  go_enter Try.func164, Try.ntmps164
  go_wp2_with fail
  refine HC.out.mono ?_
  rintro e w1 ⟨r, rfl, hr, hb⟩
  have HR := Lib.hid hr; clear hr
  have HB := Lib.hid hb; clear hb
  go_wp2
  go_ret
  exact ⟨by rw [← HR.out]; rfl, HB.out⟩
theorem en_isFormula_1 : ∀ (args : Array Value) (w : World), (callFunc 165 args).run Try.prog w = .ok (.enter 165 args) w := enters Try.func165 (by kernel_rfl) (by kernel_rfl)
theorem impl_isFormula (v : Value) (xs : List Nd) (w : World) (h : Sl cN w v xs) (hl : xs.length ≤ 1073741824) :
    Calls Try.prog 102 #[v] w fun e w' => e = .returned (.bool (isF xs)) ∧ Below w.heap.size w w' := by
  obtain ⟨A, c, rfl⟩ := h.opn
  by_cases h1 : 1 ≤ xs.length
  · by_cases h2 : xs.length ≤ 40
    · go_enter Try.func102, Try.ntmps102
      go_wp2_with fail
      refine (slices_ContainsFunc_node _ xs _ _ (fun n => !isNd n) _ h hl en_isFormula_1 (fun w' _ a b => by rw [Array.append_empty]; exact impl_isFormula_1 a b w')).mono ?_
      rintro e w1 ⟨rfl, hb⟩
      have h' := h.below hb
      have HB := Lib.hid hb; clear hb
      by_cases h3 : xs.any (fun n => !isNd n) = true
      · have e : isF xs = false := by
          have : xs.all isNd = false := by
            rw [← Bool.not_eq_true]
            intro ha
            obtain ⟨x, hx, hn⟩ := List.any_eq_true.1 h3
            have := List.all_eq_true.1 ha x hx
            simp [this] at hn
          simp [isF, isT, this]
        have E := Lib.hid e; clear e
        rw [h3]
        have H3 := Lib.hid h3; clear h3
        go_wp2
        go_ret
        exact ⟨by rw [E.out]; rfl, HB.out⟩
      · rw [Bool.not_eq_true] at h3
        have e : isF xs = decide (pe xs 1 0 = xs.length) := by
          have h4 : xs.all isNd = true := by
            rw [List.all_eq_true]
            intro x hx
            have := List.any_eq_false.1 h3 x hx
            simpa using this
          simp only [isF, isT, h4, decide_eq_true h2, decide_eq_true (show 0 < xs.length from h1), Bool.true_and, Bool.and_true]
        have E := Lib.hid e; clear e
        rw [h3]
        have H3 := Lib.hid h3; clear h3
        go_wp2_with fail
        refine (impl_partEnd _ xs 0 _ h' hl (by omega)).mono ?_
        rintro e w2 ⟨rfl, rfl⟩
        rw [List.drop_zero]
        go_wp2
        go_ret
        exact ⟨by rw [E.out]; first | rfl | (congr 2; rw [Bool.eq_iff_iff]; simp), HB.out⟩
    · have e : isF xs = false := by simp [isF]; omega
      have E := Lib.hid e; clear e
      go_enter Try.func102, Try.ntmps102
      go_wp2
      go_ret
      exact ⟨by rw [E.out]; rfl, Below.refl _ _⟩
  · have e : isF xs = false := by
      have h0 : decide (0 < xs.length) = false := by simp only [decide_eq_false_iff_not]; omega
      simp only [isF, isT, h0, Bool.and_false]
    have E := Lib.hid e; clear e
    go_enter Try.func102, Try.ntmps102
    go_wp2
    go_ret
    exact ⟨by rw [E.out]; rfl, Below.refl _ _⟩
theorem isNd_cases (k s : Int) : isNd (k, s) = (inR k 0 6 && (inR s 0 5 && (decide (k = 0) || decide (s = 0)))) := by
  rw [Bool.eq_iff_iff]
  by_cases hk : k = 0
  · simp [isNd, hk, inR]
  · simp [isNd, hk, inR]
    omega
theorem spec_l02Tree (v : Value) (xs : List Nd) (w : World) (h : Sl cN w v xs) (hl : xs.length ≤ 1073741824) :
    Calls Try.prog 158 #[v] w fun e w' => e = .returned (.bool (isT xs)) ∧ w = w' := by
  obtain ⟨A, c, rfl⟩ := h.opn
  go_enter Try.func158, Try.ntmps158
  go_wp2
  go_loop [3] (fun i => ∃ j : Nat, j ≤ xs.length ∧ i = .int .i64 j ∧ (xs.take j).all isNd = true) (fun i => xs.length - (intOf i).toNat)
  case atStart => exact ⟨0, Nat.zero_le _, rfl, rfl⟩
  case round =>
    obtain ⟨j, hj, rfl, hh⟩ := hrel
    have Hh := Lib.hid hh; clear hh
    by_cases hlt : j < xs.length
    · obtain ⟨b, o, rfl, hbl, hc0, hc1⟩ := h.atN hlt
      have HT : Hid ((xs.take (j + 1)).all isNd = isNd (xs[j].1, xs[j].2)) := by
        show _ = _
        rw [List.take_succ_eq_append_getElem hlt, List.all_append, Hh.out]
        simp
      have HN : Hid (isNd (xs[j].1, xs[j].2) = false → isT xs = false) := by
        intro hn
        have : xs.all isNd = false := by
          rw [← Bool.not_eq_true]
          intro ha
          have := List.all_eq_true.1 ha xs[j] (List.getElem_mem hlt)
          rw [this] at hn
          cases hn
        simp [isT, this]
      rw [isNd_cases] at HT HN
      by_cases c1 : inR xs[j].1 0 6 = true
      · have HC1 := Lib.hid c1
        rw [c1] at HT HN
        clear c1
        by_cases c2 : inR xs[j].2 0 5 = true
        · have HC2 := Lib.hid c2
          rw [c2] at HT HN
          clear c2
          by_cases c3 : xs[j].1 = 0
          · have HC3 := Lib.hid (show xs[j].1 = 0 from c3)
            have d3 : (xs[j].1 != 0) = false := by simp [c3]
            have d3' : (xs[j].1 == 0) = true := by simp [c3]
            clear c3
            go_wp2_with fail
            refine (spec_l01In _ _ _ _).mono ?_
            rintro e w1 ⟨rfl, rfl⟩
            rw [HC1.out]
            go_wp2_with fail
            refine (spec_l01In _ _ _ _).mono ?_
            rintro e w1 ⟨rfl, rfl⟩
            rw [HC2.out]
            go_wp2
            go_round
            case rel => exact ⟨j + 1, by omega, by go_num, by rw [HT.out, decide_eq_true HC3.out]; rfl⟩
            case measure => simp [intOf]; omega
          · have HC3 := Lib.hid c3
            have d3 : (xs[j].1 != 0) = true := by simp [c3]
            clear c3
            by_cases c4 : xs[j].2 = 0
            · have HC4 := Lib.hid c4
              have d4 : (xs[j].2 != 0) = false := by simp [c4]
              clear c4
              go_wp2_with fail
              refine (spec_l01In _ _ _ _).mono ?_
              rintro e w1 ⟨rfl, rfl⟩
              rw [HC1.out]
              go_wp2_with fail
              refine (spec_l01In _ _ _ _).mono ?_
              rintro e w1 ⟨rfl, rfl⟩
              rw [HC2.out]
              go_wp2
              go_round
              case rel => exact ⟨j + 1, by omega, by go_num, by rw [HT.out, decide_eq_true HC4.out]; simp⟩
              case measure => simp [intOf]; omega
            · have HC4 := Lib.hid c4
              have d4 : (xs[j].2 != 0) = true := by simp [c4]
              clear c4
              go_wp2_with fail
              refine (spec_l01In _ _ _ _).mono ?_
              rintro e w1 ⟨rfl, rfl⟩
              rw [HC1.out]
              go_wp2_with fail
              refine (spec_l01In _ _ _ _).mono ?_
              rintro e w1 ⟨rfl, rfl⟩
              rw [HC2.out]
              go_wp2
              go_ret
              exact ⟨by rw [HN.out (by rw [decide_eq_false HC3.out, decide_eq_false HC4.out]; rfl)]; rfl, rfl⟩
        · rw [Bool.not_eq_true] at c2
          have HC2 := Lib.hid c2
          rw [c2] at HT HN
          clear c2
          go_wp2_with fail
          refine (spec_l01In _ _ _ _).mono ?_
          rintro e w1 ⟨rfl, rfl⟩
          rw [HC1.out]
          go_wp2_with fail
          refine (spec_l01In _ _ _ _).mono ?_
          rintro e w1 ⟨rfl, rfl⟩
          rw [HC2.out]
          go_wp2
          go_ret
          exact ⟨by rw [HN.out (by rfl)]; rfl, rfl⟩
      · rw [Bool.not_eq_true] at c1
        have HC1 := Lib.hid c1
        rw [c1] at HT HN
        clear c1
        go_wp2_with fail
        refine (spec_l01In _ _ _ _).mono ?_
        rintro e w1 ⟨rfl, rfl⟩
        rw [HC1.out]
        go_wp2
        go_ret
        exact ⟨by rw [HN.out (by rfl)]; rfl, rfl⟩
    · have ha : xs.all isNd = true := by
        have := Hh.out
        rw [List.take_of_length_le (by omega)] at this
        exact this
      have HA := Lib.hid ha; clear ha
      by_cases hp : 0 < xs.length
      · have hp' : ((xs.length : Int) > 0) = True := by simp; omega
        have e : isT xs = decide (pe xs 1 0 = xs.length) := by
          simp only [isT, HA.out, decide_eq_true hp, Bool.true_and, Bool.and_true]
        have E := Lib.hid e; clear e
        clear hp'
        go_wp2_with fail
        refine (spec_l02Part _ xs 0 _ h hl (by omega)).mono ?_
        rintro e w2 ⟨rfl, rfl⟩
        rw [List.drop_zero]
        go_wp2
        go_ret
        exact ⟨by rw [E.out]; first | rfl | (congr 2; rw [Bool.eq_iff_iff]; simp), rfl⟩
      · have e : isT xs = false := by
          have h0 : decide (0 < xs.length) = false := by simp only [decide_eq_false_iff_not]; omega
          simp only [isT, h0, Bool.and_false]
        have E := Lib.hid e; clear e
        go_wp2
        go_ret
        exact ⟨by rw [E.out]; rfl, rfl⟩
theorem spec_l02Is (v : Value) (xs : List Nd) (w : World) (h : Sl cN w v xs) (hl : xs.length ≤ 1073741824) :
    Calls Try.prog 99 #[v] w fun e w' => e = .returned (.bool (isF xs)) ∧ w = w' := by
  obtain ⟨A, c, rfl⟩ := h.opn
  by_cases h2 : xs.length ≤ 40
  · have e : isF xs = isT xs := by simp only [isF, decide_eq_true h2, Bool.true_and]
    have E := Lib.hid e; clear e
    go_enter Try.func99, Try.ntmps99
    go_wp2_with fail
    refine (spec_l02Tree _ xs _ h hl).mono ?_
    rintro e w2 ⟨rfl, rfl⟩
    go_wp2
    go_ret
    exact ⟨by rw [E.out]; rfl, rfl⟩
  · have e : isF xs = false := by simp only [isF, decide_eq_false h2, Bool.false_and]
    have E := Lib.hid e; clear e
    go_enter Try.func99, Try.ntmps99
    go_wp2
    go_ret
    exact ⟨by rw [E.out]; rfl, rfl⟩
end Go.Proofs.Ytbejakkcdbhmaaa

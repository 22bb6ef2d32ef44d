/- Contracts of IsLetterlessTheorem, IsTrueSentence, FirstFalseRank and AreLetterlessEqual, of the program and of the reference. -/
import Derived.Test.Ytbmknlfpaggbnaa32q
namespace Go.Proofs.Ytbmknlfpaggbnaa
open Go.RowKit
set_option linter.unusedVariables false
set_option linter.unusedSimpArgs false
set_option maxRecDepth 100000 in
theorem spec_fld0 (a b : Value) (w : World) : Sem.run Try.prog (Instr.field 33 (Value.agg #[a, b]) 0) w = .ok a w := by
  first | rfl | kernel_rfl | (simp [go_sem]; done)
set_option maxRecDepth 100000 in
theorem spec_fld1 (a b : Value) (w : World) : Sem.run Try.prog (Instr.field 33 (Value.agg #[a, b]) 1) w = .ok b w := by
  first | rfl | kernel_rfl | (simp [go_sem]; done)
theorem impl_IsLetterlessTheorem_bad (v : Value) (xs : List Nd) (w : World) (h : Sl cN w v xs) (hl : xs.length ≤ 1048576) (hc : lcode [xs] ≠ 0) :
    Calls Try.prog 43 #[v] w fun e w' => e = .returned (.tuple #[.bool false, .int .i64 (lcode [xs])]) ∧ Below w.heap.size w w' := by
  obtain ⟨A, c, rfl⟩ := h.opn
  have H1 := Lib.hid (impl_lcode1 xs w h hl _ rfl)
  have hc' : (lcode [xs] != 0) = true := by simpa using hc
  generalize lcode [xs] = k at *
  clear h hc
  go_enter Try.func43, Try.ntmps43
  go_wp2_with fail
  refine H1.out.mono ?_
  rintro e w1 ⟨rfl, hb⟩
  have HB := Lib.hid hb; clear hb
  go_wp2
  go_ret2
  exact ⟨rfl, HB.out⟩
theorem spec_IsLetterlessTheorem_bad (v : Value) (xs : List Nd) (w : World) (h : Sl cN w v xs) (hl : xs.length ≤ 1048576) (hc : lcode [xs] ≠ 0) :
    Calls Try.prog 42 #[v] w fun e w' => e = .returned (.tuple #[.bool false, .int .i64 (lcode [xs])]) ∧ Below w.heap.size w w' := by
  obtain ⟨A, c, rfl⟩ := h.opn
  have H1 := Lib.hid (spec_lcode1 xs w h hl _ rfl)
  have hc' : (lcode [xs] != 0) = true := by simpa using hc
  generalize lcode [xs] = k at *
  clear h hc
  go_enter Try.func42, Try.ntmps42
  go_wp2_with fail
  refine H1.out.mono ?_
  rintro e w1 ⟨rfl, hb⟩
  have HB := Lib.hid hb; clear hb
  go_wp2
  go_ret2
  exact ⟨rfl, HB.out⟩
theorem impl_IsLetterlessTheorem_ok (v : Value) (f : Fm) (w : World) (h : Sl cN w v (enc f)) (hl : (enc f).length ≤ 40) (hc : lcode [enc f] = 0) :
    Calls Try.prog 43 #[v] w fun e w' => e = .returned (.tuple #[.bool (allR (rk f 0)), .int .i64 0]) ∧ Below w.heap.size w w' := by
  have HR := Lib.hid (fun W (hW : Sl cN W v (enc f)) => impl_ranksOf f v 0 W (by decide) hW (by omega))
  obtain ⟨A, c, rfl⟩ := h.opn
  have H1 := impl_lcode1 (enc f) w h (by omega) _ rfl
  rw [hc] at H1
  have H1 := Lib.hid H1
  have Hh := Lib.hid h
  clear h hc
  generalize (enc f).length = L at *
  have E := Lib.hid (allR_msk (rk f 0))
  go_enter Try.func43, Try.ntmps43
  go_wp2_with fail
  refine H1.out.mono ?_
  rintro e w1 ⟨rfl, hb⟩
  go_wp2_with fail
  refine (HR.out _ (Hh.out.below hb)).mono ?_
  rintro e w2 ⟨rfl, rfl⟩
  have HB := Lib.hid hb; clear hb
  go_wp2
  go_ret2
  exact ⟨by rw [← E.out]; rfl, HB.out⟩
theorem spec_IsLetterlessTheorem_ok (v : Value) (f : Fm) (w : World) (h : Sl cN w v (enc f)) (hl : (enc f).length ≤ 40) (hc : lcode [enc f] = 0) (hv : f.novar = true) :
    Calls Try.prog 42 #[v] w fun e w' => e = .returned (.tuple #[.bool (allR (rk f 0)), .int .i64 0]) ∧ Below w.heap.size w w' := by
  have HR := Lib.hid (fun W (hW : Sl cN W v (enc f)) => spec_l32Row f hv (by omega) v W hW)
  obtain ⟨A, c, rfl⟩ := h.opn
  have H1 := spec_lcode1 (enc f) w h (by omega) _ rfl
  rw [hc] at H1
  have H1 := Lib.hid H1
  have Hh := Lib.hid h
  clear h hc
  generalize (enc f).length = L at *
  have E := Lib.hid (allR_tr (rk f 0))
  go_enter Try.func42, Try.ntmps42
  go_wp2_with fail
  refine H1.out.mono ?_
  rintro e w1 ⟨rfl, hb⟩
  go_wp2_with fail
  refine (HR.out _ (Hh.out.below hb)).mono ?_
  rintro e w2 ⟨r, rfl, hr, hb2⟩
  go_wp2_with fail
  refine (spec_l32Trace r (rk f 0) _ hr.sl).mono ?_
  rintro e w3 ⟨u, rfl, ho, hb3⟩
  go_wp2_with fail
  refine (spec_l32All u _ (trOf (rk f 0)) _ ho.sl (by have := trTo_length (rk f 0) 61; unfold trOf; omega)).mono ?_
  rintro e w4 ⟨rfl, hb4⟩
  rw [E.out]
  have HB := Lib.hid (bthen (bthen (bthen hb hb2) hb3) hb4)
  clear hb hb2 hb3 hb4 hr ho
  go_wp2
  go_ret2
  exact ⟨rfl, HB.out⟩
theorem spec_IsTrueSentence_bad (v : Value) (xs : List Nd) (w : World) (h : Sl cN w v xs) (hl : xs.length ≤ 1048576) (hc : lcode [xs] ≠ 0) :
    Calls Try.prog 44 #[v] w fun e w' => e = .returned (.tuple #[.bool false, .int .i64 (lcode [xs])]) ∧ Below w.heap.size w w' := by
  obtain ⟨A, c, rfl⟩ := h.opn
  have H1 := Lib.hid (spec_lcode1 xs w h hl _ rfl)
  have hc' : (lcode [xs] != 0) = true := by simpa using hc
  generalize lcode [xs] = k at *
  clear h hc
  go_enter Try.func44, Try.ntmps44
  go_wp2_with fail
  refine H1.out.mono ?_
  rintro e w1 ⟨rfl, hb⟩
  have HB := Lib.hid hb; clear hb
  go_wp2
  go_ret2
  exact ⟨rfl, HB.out⟩
set_option maxRecDepth 100000 in
theorem spec_IsTrueSentence_ok (v : Value) (f : Fm) (w : World) (h : Sl cN w v (enc f)) (hl : (enc f).length ≤ 40) (hc : lcode [enc f] = 0) (hv : f.novar = true) :
    Calls Try.prog 44 #[v] w fun e w' => e = .returned (.tuple #[.bool (rk f 0 60), .int .i64 0]) ∧ Below w.heap.size w w' := by
  have HR := Lib.hid (fun W (hW : Sl cN W v (enc f)) => spec_l32Row f hv (by omega) v W hW)
  obtain ⟨A, c, rfl⟩ := h.opn
  have H1 := spec_lcode1 (enc f) w h (by omega) _ rfl
  rw [hc] at H1
  have H1 := Lib.hid H1
  have Hh := Lib.hid h
  clear h hc
  generalize (enc f).length = L at *
  go_enter Try.func44, Try.ntmps44
  go_wp2_with fail
  refine H1.out.mono ?_
  rintro e w1 ⟨rfl, hb⟩
  go_wp2_with fail
  refine (HR.out _ (Hh.out.below hb)).mono ?_
  rintro e w2 ⟨r, rfl, hr, hb2⟩
  go_wp2_with fail
  refine (spec_l32Trace r (rk f 0) _ hr.sl).mono ?_
  rintro e w3 ⟨u, rfl, ho, hb3⟩
  have HB := Lib.hid (bthen (bthen hb hb2) hb3)
  obtain ⟨A3, c3, rfl⟩ := ho.opn
  clear hb hb2 hb3 hr ho
  go_wp2_with fail
  rw [spec_fld0]
  go_wp2
  go_ret2
  exact ⟨by first | rfl | (simp only [Bool.not_not]; rfl), HB.out⟩
theorem impl_IsTrueSentence_bad (v : Value) (xs : List Nd) (w : World) (h : Sl cN w v xs) (hl : xs.length ≤ 1048576) (hc : lcode [xs] ≠ 0) :
    Calls Try.prog 45 #[v] w fun e w' => e = .returned (.tuple #[.bool false, .int .i64 (lcode [xs])]) ∧ Below w.heap.size w w' := by
  have H1 := Lib.hid (impl_TraceOf_bad v xs w h hl hc)
  have hc' : (lcode [xs] == 0) = false := by simpa using hc
  generalize lcode [xs] = k at *
  clear h hc
  go_enter Try.func45, Try.ntmps45
  go_wp2_with fail
  refine H1.out.mono ?_
  rintro e w1 ⟨rfl, hb⟩
  have HB := Lib.hid (hb.alloc hb.size (.cells #[.bool false, .slice none 0 0] 33)); clear hb
  go_wp2
  go_ret2
  exact ⟨rfl, HB.out⟩
theorem impl_IsTrueSentence_ok (v : Value) (f : Fm) (w : World) (h : Sl cN w v (enc f)) (hl : (enc f).length ≤ 40) (hc : lcode [enc f] = 0) :
    Calls Try.prog 45 #[v] w fun e w' => e = .returned (.tuple #[.bool (rk f 0 60), .int .i64 0]) ∧ Below w.heap.size w w' := by
  have H1 := Lib.hid (impl_TraceOf_ok v f w h hl hc)
  clear h hc
  go_enter Try.func45, Try.ntmps45
  go_wp2_with fail
  refine H1.out.mono ?_
  rintro e w1 ⟨u, rfl, ho, hb⟩
  obtain ⟨A3, c3, rfl⟩ := ho.opn
  have HB := Lib.hid (hb.alloc hb.size (.cells #[.bool (!rk f 0 60), .slice A3 (trOf (rk f 0)).length c3] 33)); clear hb ho
  go_wp2
  go_ret2
  exact ⟨by first | rfl | (simp only [Bool.not_not]; rfl), HB.out⟩
theorem spec_FirstFalseRank_bad (v : Value) (xs : List Nd) (w : World) (h : Sl cN w v xs) (hl : xs.length ≤ 1048576) (hc : lcode [xs] ≠ 0) :
    Calls Try.prog 46 #[v] w fun e w' => e = .returned (.tuple #[.int .i64 0, .int .i64 (lcode [xs])]) ∧ Below w.heap.size w w' := by
  obtain ⟨A, c, rfl⟩ := h.opn
  have H1 := Lib.hid (spec_lcode1 xs w h hl _ rfl)
  have hc' : (lcode [xs] != 0) = true := by simpa using hc
  generalize lcode [xs] = k at *
  clear h hc
  go_enter Try.func46, Try.ntmps46
  go_wp2_with fail
  refine H1.out.mono ?_
  rintro e w1 ⟨rfl, hb⟩
  have HB := Lib.hid hb; clear hb
  go_wp2
  go_ret2
  exact ⟨rfl, HB.out⟩
/-- what FirstFalseRank says -/
def ffOut (p : Nat → Bool) : Int × Int := if ffI p < 0 then (0, 4) else (ffI p, 0)
theorem ffI_some (p : Nat → Bool) (j : Nat) (hj : j < 61) (h : ∀ n < j, p n = true) (hp : p j = false) : ffI p = j := by
  have hf : (List.range 61).find? (fun n => !p n) = some j := by
    rw [List.find?_eq_some_iff_append]
    refine ⟨by rw [hp]; rfl, List.range j, List.range' (j + 1) (60 - j), ?_, fun a ha => by rw [h a (List.mem_range.1 ha)]; rfl⟩
    obtain ⟨d, hd⟩ : ∃ d, 60 - j = d := ⟨_, rfl⟩
    rw [hd, ← List.range'_succ, List.range_eq_range', List.range_eq_range', show (61 : Nat) = j + (d + 1) by omega]
    have := List.range'_append (s := 0) (m := j) (n := d + 1) (step := 1)
    rw [← this]
    simp
  unfold ffI
  rw [hf]
theorem ffI_none (p : Nat → Bool) (h : ∀ n < 61, p n = true) : ffI p = -1 := by
  have hf : (List.range 61).find? (fun n => !p n) = none := by
    rw [List.find?_eq_none]
    intro n hn
    rw [h n (List.mem_range.1 hn)]
    decide
  unfold ffI
  rw [hf]
theorem spec_FirstFalseRank_ok (v : Value) (f : Fm) (w : World) (h : Sl cN w v (enc f)) (hl : (enc f).length ≤ 40) (hc : lcode [enc f] = 0) (hv : f.novar = true) :
    Calls Try.prog 46 #[v] w fun e w' => e = .returned (.tuple #[.int .i64 (ffOut (rk f 0)).1, .int .i64 (ffOut (rk f 0)).2]) ∧ Below w.heap.size w w' := by
  have HR := Lib.hid (fun W (hW : Sl cN W v (enc f)) => spec_l32Row f hv (by omega) v W hW)
  obtain ⟨A, c, rfl⟩ := h.opn
  have H1 := spec_lcode1 (enc f) w h (by omega) _ rfl
  rw [hc] at H1
  have H1 := Lib.hid H1
  have Hh := Lib.hid h
  clear h hc
  generalize (enc f).length = L at *
  go_enter Try.func46, Try.ntmps46
  go_wp2_with fail
  refine H1.out.mono ?_
  rintro e w1 ⟨rfl, hb⟩
  go_wp2_with fail
  refine (HR.out _ (Hh.out.below hb)).mono ?_
  rintro e w2 ⟨r, rfl, hr, hb2⟩
  have HB := Lib.hid (bthen hb hb2)
  obtain ⟨A3, c3, rfl⟩ := hr.opn
  have hs := hr.sl
  rw [row_length] at hs ⊢
  clear hb hb2 hr
  go_wp2
  go_loop [6] (fun i => ∃ j : Nat, j ≤ 61 ∧ i = .int .i64 j ∧ ∀ n < j, rk f 0 n = true) (fun i => 61 - (intOf i).toNat)
  case atStart => exact ⟨0, by omega, rfl, fun n hn => by omega⟩
  case round =>
    obtain ⟨j, hj, rfl, hh⟩ := hrel
    have Hh := Lib.hid hh; clear hh
    by_cases hlt : j < 61
    · obtain ⟨b, o, rfl, hbl, hx⟩ := hs.atB (k := j) (by rw [row_length]; exact hlt)
      rw [row_get] at hx
      by_cases hp : rk f 0 j = true
      · have HP := Lib.hid hp
        rw [hp] at hx
        clear hp
        go_wp2
        go_round
        case rel => exact ⟨j + 1, by omega, by go_num, fun n hn => (Nat.lt_or_ge n j).elim (fun h => Hh.out n h) (fun h => (show n = j by omega) ▸ HP.out)⟩
        case measure => simp [intOf]; omega
      · rw [Bool.not_eq_true] at hp
        have E : Hid (ffOut (rk f 0) = ((j : Int), 0)) := by
          show _ = _
          unfold ffOut
          rw [ffI_some _ j hlt Hh.out hp, if_neg (by omega)]
        rw [hp] at hx
        clear hp
        go_wp2
        go_ret2
        exact ⟨by rw [E.out]; rfl, HB.out⟩
    · obtain rfl : j = 61 := by omega
      have E : Hid (ffOut (rk f 0) = (0, 4)) := by
        show _ = _
        unfold ffOut
        rw [ffI_none _ Hh.out, if_pos (by omega)]
      go_wp2
      go_ret2
      exact ⟨by rw [E.out]; rfl, HB.out⟩
theorem impl_FirstFalseRank_bad (v : Value) (xs : List Nd) (w : World) (h : Sl cN w v xs) (hl : xs.length ≤ 1048576) (hc : lcode [xs] ≠ 0) :
    Calls Try.prog 47 #[v] w fun e w' => e = .returned (.tuple #[.int .i64 0, .int .i64 (lcode [xs])]) ∧ Below w.heap.size w w' := by
  have H1 := Lib.hid (impl_TraceOf_bad v xs w h hl hc)
  have hc' : (lcode [xs] != 0) = true := by simpa using hc
  generalize lcode [xs] = k at *
  clear h hc
  go_enter Try.func47, Try.ntmps47
  go_wp2_with fail
  refine H1.out.mono ?_
  rintro e w1 ⟨rfl, hb⟩
  have HB := Lib.hid (hb.alloc hb.size (.cells #[.bool false, .slice none 0 0] 33)); clear hb
  go_wp2
  go_ret2
  exact ⟨rfl, HB.out⟩
theorem impl_FirstFalseRank_ok (v : Value) (f : Fm) (w : World) (h : Sl cN w v (enc f)) (hl : (enc f).length ≤ 40) (hc : lcode [enc f] = 0) :
    Calls Try.prog 47 #[v] w fun e w' => e = .returned (.tuple #[.int .i64 (ffOut (rk f 0)).1, .int .i64 (ffOut (rk f 0)).2]) ∧ Below w.heap.size w w' := by
  have H1 := Lib.hid (impl_TraceOf_ok v f w h hl hc)
  have hlen := trTo_length (rk f 0) 61
  have E := Lib.hid (ff_tr (rk f 0))
  have hrange := ffI_range (rk f 0)
  clear h hc
  go_enter Try.func47, Try.ntmps47
  go_wp2_with fail
  refine H1.out.mono ?_
  rintro e w1 ⟨u, rfl, ho, hb⟩
  obtain ⟨A3, c3, rfl⟩ := ho.opn
  have hb1 := hb.alloc hb.size (.cells #[.bool (!rk f 0 60), .slice A3 (trOf (rk f 0)).length c3] 33)
  have hs := ho.sl.alloc (.cells #[.bool (!rk f 0 60), .slice A3 (trOf (rk f 0)).length c3] 33)
  go_wp2_with fail
  refine (impl_firstFalse _ _ _ _ hs (by unfold trOf; omega)).mono ?_
  rintro e w2 ⟨rfl, hb2⟩
  rw [E.out]
  have HB := Lib.hid (bthen hb1 hb2)
  clear hb hb1 hb2 ho hs
  by_cases hn : ffI (rk f 0) < 0
  · have E2 : Hid (ffOut (rk f 0) = (0, 4)) := by show _ = _; unfold ffOut; rw [if_pos hn]
    go_wp2
    go_ret2
    exact ⟨by rw [E2.out]; rfl, HB.out⟩
  · have E2 : Hid (ffOut (rk f 0) = (ffI (rk f 0), 0)) := by show _ = _; unfold ffOut; rw [if_neg hn]
    go_wp2
    go_ret2
    exact ⟨by rw [E2.out]; rfl, HB.out⟩
theorem impl_lcode2 {A B : Option Addr} {n c m d : Nat} (xs ys : List Nd) (w : World) (h : Sl cN w (.slice A n c) xs) (h' : Sl cN w (.slice B m d) ys) (hl : xs.length ≤ 1048576) (hl' : ys.length ≤ 1048576) (g : Nat) (hg : g = w.heap.size) :
    Calls Try.prog 82 #[.slice (some ⟨g, 0, none⟩) 2 2] (w.alloc (.cells #[.slice A n c, .slice B m d] 44)) fun e w' => e = .returned (.int .i64 (lcode [xs, ys])) ∧ Below w.heap.size w w' := by
  subst hg
  exact (impl_letterlessCode _ [xs, ys] _ (Sl2.two h h' 44) (by simp) (by simp [hl, hl'])).mono fun e w' ⟨he, hb⟩ => ⟨he, ((Below.refl _ _).alloc (Nat.le_refl _) _).trans (hb.mono (by simp))⟩
theorem impl_AreLetterlessEqual_bad (v u : Value) (xs ys : List Nd) (w : World) (h : Sl cN w v xs) (h' : Sl cN w u ys) (hl : xs.length ≤ 1048576) (hl' : ys.length ≤ 1048576) (hc : lcode [xs, ys] ≠ 0) :
    Calls Try.prog 41 #[v, u] w fun e w' => e = .returned (.tuple #[.bool false, .int .i64 (lcode [xs, ys])]) ∧ Below w.heap.size w w' := by
  obtain ⟨A, c, rfl⟩ := h.opn
  obtain ⟨B, d, rfl⟩ := h'.opn
  have H1 := Lib.hid (impl_lcode2 xs ys w h h' hl hl' _ rfl)
  have hc' : (lcode [xs, ys] != 0) = true := by simpa using hc
  generalize lcode [xs, ys] = k at *
  clear h h' hc
  go_enter Try.func41, Try.ntmps41
  go_wp2_with fail
  refine H1.out.mono ?_
  rintro e w1 ⟨rfl, hb⟩
  have HB := Lib.hid hb; clear hb
  go_wp2
  go_ret2
  exact ⟨rfl, HB.out⟩
theorem spec_lcode2 {A B : Option Addr} {n c m d : Nat} (xs ys : List Nd) (w : World) (h : Sl cN w (.slice A n c) xs) (h' : Sl cN w (.slice B m d) ys) (hl : xs.length ≤ 1048576) (hl' : ys.length ≤ 1048576) (g : Nat) (hg : g = w.heap.size) :
    Calls Try.prog 80 #[.slice (some ⟨g, 0, none⟩) 2 2] (w.alloc (.cells #[.slice A n c, .slice B m d] 44)) fun e w' => e = .returned (.int .i64 (lcode [xs, ys])) ∧ Below w.heap.size w w' := by
  subst hg
  exact (spec_l32Code _ [xs, ys] _ (Sl2.two h h' 44) (by simp) (by simp [hl, hl'])).mono fun e w' ⟨he, hb⟩ => ⟨he, ((Below.refl _ _).alloc (Nat.le_refl _) _).trans (hb.mono (by simp))⟩
theorem spec_AreLetterlessEqual_bad (v u : Value) (xs ys : List Nd) (w : World) (h : Sl cN w v xs) (h' : Sl cN w u ys) (hl : xs.length ≤ 1048576) (hl' : ys.length ≤ 1048576) (hc : lcode [xs, ys] ≠ 0) :
    Calls Try.prog 40 #[v, u] w fun e w' => e = .returned (.tuple #[.bool false, .int .i64 (lcode [xs, ys])]) ∧ Below w.heap.size w w' := by
  obtain ⟨A, c, rfl⟩ := h.opn
  obtain ⟨B, d, rfl⟩ := h'.opn
  have H1 := Lib.hid (spec_lcode2 xs ys w h h' hl hl' _ rfl)
  have hc' : (lcode [xs, ys] != 0) = true := by simpa using hc
  generalize lcode [xs, ys] = k at *
  clear h h' hc
  go_enter Try.func40, Try.ntmps40
  go_wp2_with fail
  refine H1.out.mono ?_
  rintro e w1 ⟨rfl, hb⟩
  have HB := Lib.hid hb; clear hb
  go_wp2
  go_ret2
  exact ⟨rfl, HB.out⟩
theorem impl_AreLetterlessEqual_ok (v u : Value) (f g : Fm) (w : World) (h : Sl cN w v (enc f)) (h' : Sl cN w u (enc g)) (hl : (enc f).length ≤ 40) (hl' : (enc g).length ≤ 40) (hc : lcode [enc f, enc g] = 0) :
    Calls Try.prog 41 #[v, u] w fun e w' => e = .returned (.tuple #[.bool (alike (rk f 0) (rk g 0)), .int .i64 0]) ∧ Below w.heap.size w w' := by
  have HR := Lib.hid (fun W (hW : Sl cN W v (enc f)) => impl_ranksOf f v 0 W (by decide) hW (by omega))
  have HR2 := Lib.hid (fun W (hW : Sl cN W u (enc g)) => impl_ranksOf g u 0 W (by decide) hW (by omega))
  obtain ⟨A, c, rfl⟩ := h.opn
  obtain ⟨B, d, rfl⟩ := h'.opn
  have H1 := impl_lcode2 (enc f) (enc g) w h h' (by omega) (by omega) _ rfl
  rw [hc] at H1
  have H1 := Lib.hid H1
  have E := Lib.hid (alike_msk (rk f 0) (rk g 0))
  have Hh := Lib.hid h
  have Hh' := Lib.hid h'
  clear h h' hc
  generalize (enc f).length = L at *
  generalize (enc g).length = M at *
  go_enter Try.func41, Try.ntmps41
  go_wp2_with fail
  refine H1.out.mono ?_
  rintro e w1 ⟨rfl, hb⟩
  go_wp2_with fail
  refine (HR.out _ (Hh.out.below hb)).mono ?_
  rintro e w2 ⟨rfl, rfl⟩
  go_wp2_with fail
  refine (HR2.out _ (Hh'.out.below hb)).mono ?_
  rintro e w2 ⟨rfl, rfl⟩
  have HB := Lib.hid hb; clear hb
  go_wp2
  go_ret2
  exact ⟨by rw [← E.out]; rfl, HB.out⟩
theorem spec_AreLetterlessEqual_ok (v u : Value) (f g : Fm) (w : World) (h : Sl cN w v (enc f)) (h' : Sl cN w u (enc g)) (hl : (enc f).length ≤ 40) (hl' : (enc g).length ≤ 40) (hc : lcode [enc f, enc g] = 0) (hv : f.novar = true) (hv' : g.novar = true) :
    Calls Try.prog 40 #[v, u] w fun e w' => e = .returned (.tuple #[.bool (alike (rk f 0) (rk g 0)), .int .i64 0]) ∧ Below w.heap.size w w' := by
  have HR := Lib.hid (fun W (hW : Sl cN W v (enc f)) => spec_l32Row f hv (by omega) v W hW)
  have HR2 := Lib.hid (fun W (hW : Sl cN W u (enc g)) => spec_l32Row g hv' (by omega) u W hW)
  obtain ⟨A, c, rfl⟩ := h.opn
  obtain ⟨B, d, rfl⟩ := h'.opn
  have H1 := spec_lcode2 (enc f) (enc g) w h h' (by omega) (by omega) _ rfl
  rw [hc] at H1
  have H1 := Lib.hid H1
  have Hh := Lib.hid h
  have Hh' := Lib.hid h'
  clear h h' hc
  generalize (enc f).length = L at *
  generalize (enc g).length = M at *
  go_enter Try.func40, Try.ntmps40
  go_wp2_with fail
  refine H1.out.mono ?_
  rintro e w1 ⟨rfl, hb⟩
  go_wp2_with fail
  refine (HR.out _ (Hh.out.below hb)).mono ?_
  rintro e w2 ⟨r, rfl, hr, hb2⟩
  have hB2 := bthen hb hb2
  go_wp2_with fail
  refine (HR2.out _ (Hh'.out.below hB2)).mono ?_
  rintro e w3 ⟨r2, rfl, hr2, hb3⟩
  have hB3 := bthen hB2 hb3
  go_wp2_with fail
  refine (spec_l04Alike _ _ (rk f 0) (rk g 0) _ (hr.below hb3).sl hr2.sl).mono ?_
  rintro e w4 ⟨rfl, q, rfl⟩
  have HB := Lib.hid (below_drewN hB3 q)
  clear hb hb2 hb3 hB2 hB3 hr hr2
  go_wp2
  go_ret2
  exact ⟨rfl, HB.out⟩
end Go.Proofs.Ytbmknlfpaggbnaa

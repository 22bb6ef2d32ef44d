/- Contracts of LetterlessNormal, of the program and of the reference. -/
import Derived.Test.Ytbejakkcdbhmaaa03k
import Derived.Test.Ytbejakkcdbhmaaa32u
namespace Go.Proofs.Ytbejakkcdbhmaaa
open Go.RowKit
set_option linter.unusedVariables false
set_option linter.unusedSimpArgs false
theorem trOf_length (p : Nat → Bool) : (trOf p).length ≤ 61 := trTo_length p 61
theorem trOf_mem (p : Nat → Bool) : ∀ x ∈ trOf p, 0 ≤ x ∧ x ≤ 60 := by
  intro x hx
  simp only [trOf, trTo, List.mem_map, List.mem_filter, List.mem_range] at hx
  obtain ⟨n, ⟨hn, _⟩, rfl⟩ := hx
  omega
theorem impl_formula' (b : Bool) (v : Value) (xs : List Int) (w : World) (h : Sl cI w v xs) (hl : xs.length ≤ 61) (hm : ∀ x ∈ xs, 0 ≤ x ∧ x ≤ 60) :
    Calls Try.prog 124 #[.agg #[.bool b, v]] w fun e w' => ∃ u, e = .returned u ∧ Ow cN 95 w.heap.size w' u (outL b xs) ∧ Below w.heap.size w w' := by
  cases b
  · exact impl_formula_false v xs w h hl hm
  · exact impl_formula_true v xs w h hl hm
theorem spec_formula' (b : Bool) (v : Value) (xs : List Int) (w : World) (h : Sl cI w v xs) (hl : xs.length ≤ 61) (hm : ∀ x ∈ xs, 0 ≤ x ∧ x ≤ 60) :
    Calls Try.prog 120 #[.agg #[.bool b, v]] w fun e w' => ∃ u, e = .returned (.tuple #[u, .int .i64 (madeC (outL b xs))]) ∧ Ow cN 95 w.heap.size w' u (madeL (outL b xs)) ∧ Below w.heap.size w w' := by
  cases b
  · exact spec_l32Formula_false v xs w h hl hm
  · exact spec_l32Formula_true v xs w h hl hm
theorem impl_LetterlessNormal_bad (v : Value) (xs : List Nd) (w : World) (h : Sl cN w v xs) (hl : xs.length ≤ 1048576) (hc : lcode [xs] ≠ 0) :
    Calls Try.prog 48 #[v] w fun e w' => e = .returned (.tuple #[.slice none 0 0, .int .i64 (lcode [xs])]) ∧ Below w.heap.size w w' := by
  have H1 := Lib.hid (impl_TraceOf_bad v xs w h hl hc)
  have hc' : (lcode [xs] != 0) = true := by simpa using hc
  generalize lcode [xs] = k at *
  clear h hc
  go_enter Try.func48, Try.ntmps48
  go_wp2_with fail
  refine H1.out.mono ?_
  rintro e w1 ⟨rfl, hb⟩
  have HB := Lib.hid (hb.alloc hb.size (.cells #[.bool false, .slice none 0 0] 52)); clear hb
  go_wp2
  go_ret2
  exact ⟨rfl, HB.out⟩
theorem impl_LetterlessNormal_ok (v : Value) (f : Fm) (w : World) (h : Sl cN w v (enc f)) (hl : (enc f).length ≤ 40) (hc : lcode [enc f] = 0) :
    Calls Try.prog 48 #[v] w fun e w' => ∃ u, e = .returned (.tuple #[u, .int .i64 (madeC (outL (!rk f 0 60) (trOf (rk f 0))))]) ∧ Ow cN 95 w.heap.size w' u (madeL (outL (!rk f 0 60) (trOf (rk f 0)))) ∧ Below w.heap.size w w' := by
  have H1 := Lib.hid (impl_TraceOf_ok v f w h hl hc)
  have HL := Lib.hid (trOf_length (rk f 0))
  have HM := Lib.hid (trOf_mem (rk f 0))
  clear h hc
  go_enter Try.func48, Try.ntmps48
  go_wp2_with fail
  refine H1.out.mono ?_
  rintro e w1 ⟨u, rfl, ho, hb⟩
  obtain ⟨A3, c3, rfl⟩ := ho.opn
  have hb1 := hb.alloc hb.size (.cells #[.bool (!rk f 0 60), .slice A3 (trOf (rk f 0)).length c3] 52)
  have hs := ho.sl.alloc (.cells #[.bool (!rk f 0 60), .slice A3 (trOf (rk f 0)).length c3] 52)
  go_wp2_with fail
  refine (impl_formula' _ _ _ _ hs HL.out HM.out).mono ?_
  rintro e w2 ⟨u, rfl, ho2, hb2⟩
  have HB := Lib.hid (bthen hb1 hb2)
  have hz := hb1.size
  have O := Lib.hid (ho2.mono hz)
  clear hb hb1 hb2 ho ho2 hs
  go_wp2_with fail
  refine (impl_limited _ _ _ _ O.out).mono ?_
  rintro e w3 ⟨r, rfl, ho, rfl⟩
  have O2 := Lib.hid ho
  clear ho
  go_wp2
  go_ret2
  exact ⟨_, rfl, O2.out, HB.out⟩
theorem spec_LetterlessNormal_bad (v : Value) (xs : List Nd) (w : World) (h : Sl cN w v xs) (hl : xs.length ≤ 1048576) (hc : lcode [xs] ≠ 0) :
    Calls Try.prog 47 #[v] w fun e w' => e = .returned (.tuple #[.slice none 0 0, .int .i64 (lcode [xs])]) ∧ Below w.heap.size w w' := by
  obtain ⟨A, c, rfl⟩ := h.opn
  have H1 := Lib.hid (spec_lcode1 xs w h hl _ rfl)
  have hc' : (lcode [xs] != 0) = true := by simpa using hc
  generalize lcode [xs] = k at *
  clear h hc
  go_enter Try.func47, Try.ntmps47
  go_wp2_with fail
  refine H1.out.mono ?_
  rintro e w1 ⟨rfl, hb⟩
  have HB := Lib.hid hb; clear hb
  go_wp2
  go_ret2
  exact ⟨rfl, HB.out⟩
theorem spec_LetterlessNormal_ok (v : Value) (f : Fm) (w : World) (h : Sl cN w v (enc f)) (hl : (enc f).length ≤ 40) (hc : lcode [enc f] = 0) (hv : f.novar = true) :
    Calls Try.prog 47 #[v] w fun e w' => ∃ u, e = .returned (.tuple #[u, .int .i64 (madeC (outL (!rk f 0 60) (trOf (rk f 0))))]) ∧ Ow cN 95 w.heap.size w' u (madeL (outL (!rk f 0 60) (trOf (rk f 0)))) ∧ Below w.heap.size w w' := by
  have HR := Lib.hid (fun W (hW : Sl cN W v (enc f)) => spec_l32Row f hv (by omega) v W hW)
  have HL := Lib.hid (trOf_length (rk f 0))
  have HM := Lib.hid (trOf_mem (rk f 0))
  obtain ⟨A, c, rfl⟩ := h.opn
  have H1 := spec_lcode1 (enc f) w h (by omega) _ rfl
  rw [hc] at H1
  have H1 := Lib.hid H1
  have Hh := Lib.hid h
  clear h hc
  generalize (enc f).length = L at *
  go_enter Try.func47, Try.ntmps47
  go_wp2_with fail
  refine H1.out.mono ?_
  rintro e w1 ⟨rfl, hb⟩
  go_wp2_with fail
  refine (HR.out _ (Hh.out.below hb)).mono ?_
  rintro e w2 ⟨r, rfl, hr, hb2⟩
  go_wp2_with fail
  refine (spec_l32Trace r (rk f 0) _ hr.sl).mono ?_
  rintro e w3 ⟨u, rfl, ho, hb3⟩
  go_wp2_with fail
  refine (spec_formula' _ u (trOf (rk f 0)) _ ho.sl HL.out HM.out).mono ?_
  rintro e w4 ⟨u4, rfl, ho4, hb4⟩
  have hz := (bthen (bthen hb hb2) hb3).size
  have O := Lib.hid (ho4.mono hz)
  have HB := Lib.hid (bthen (bthen (bthen hb hb2) hb3) hb4)
  clear hb hb2 hb3 hb4 hr ho ho4
  go_wp2
  go_ret2
  exact ⟨_, rfl, O.out, HB.out⟩
end Go.Proofs.Ytbejakkcdbhmaaa

/- FnTraceAlgebra: both sides' contracts together, a case at a time; PrefixFormula at a box. -/
import Derived.Test.YtjpgiamblbgkpaaGreatM32U
import Derived.Test.YtjpgiamblbgkpaaGreat32D
import Derived.Test.YtjpgiamblbgkpaaGreat32S
import Derived.Test.YtjpgiamblbgkpaaGreat32V
import Derived.Test.YtjpgiamblbgkpaaGreatLK
import Derived.Test.YtjpgiamblbgkpaaGreatB5
namespace Go.Proofs.YtjpgiamblbgkpaaGreat
open Go.RowKit
set_option linter.unusedVariables false
set_option linter.unusedSimpArgs false
/-- a function of two Traces yields this Trace and this code -/
def Tr2 (f : Nat) (b : Bool) (L : List Int) (b' : Bool) (L' : List Int) (mb : Bool) (ML : List Int) (k : Int) : Prop := ∀ W v u, Sl cI W v L → Sl cI W u L' →
  Calls Tryz.prog f #[.agg #[.bool b, v], .agg #[.bool b', u]] W fun e w' => ∃ r, e = .returned (.tuple #[.agg #[.bool mb, r], .int .i64 k]) ∧ Ow cI 2 W.heap.size w' r ML ∧ Below W.heap.size W w'
/-- a function of a Trace -/
def Tr1 (f : Nat) (b : Bool) (L : List Int) (mb : Bool) (ML : List Int) (k : Int) : Prop := ∀ W v, Sl cI W v L →
  Calls Tryz.prog f #[.agg #[.bool b, v]] W fun e w' => ∃ r, e = .returned (.tuple #[.agg #[.bool mb, r], .int .i64 k]) ∧ Ow cI 2 W.heap.size w' r ML ∧ Below W.heap.size W w'
theorem meet_both (b : Bool) (L : List Int) (b' : Bool) (L' : List Int) (hL : L.length ≤ 100) (hL' : L'.length ≤ 100) :
    ∃ mb ML k, ML.length ≤ 100 ∧ Tr2 6 b L b' L' mb ML k ∧ Tr2 7 b L b' L' mb ML k ∧ (k = 1 ∨ (k = 0 ∧ okT L = true ∧ okT L' = true ∧ mb = (b || b') ∧ ML = mtR b L b' L')) := by
  by_cases hc : okT L = true ∧ okT L' = true
  · refine ⟨b || b', mtR b L b' L', 0, by have := mtR_len b L b' L'; omega, ?_, ?_, .inr ⟨rfl, hc.1, hc.2, rfl, rfl⟩⟩
    · exact fun W v u h h' => impl_MeetTraces_ok v u b b' L L' W h h' (by omega) (by omega) hc.1 hc.2
    · exact fun W v u h h' => spec_MeetTraces_ok v u b b' L L' W h h' (by omega) (by omega) hc.1 hc.2
  · have hc' : okT L = false ∨ (okT L = true ∧ okT L' = false) := by
      cases h1 : okT L
      · exact .inl rfl
      · refine .inr ⟨rfl, ?_⟩
        cases h2 : okT L'
        · rfl
        · exact absurd ⟨h1, h2⟩ hc
    refine ⟨false, [], 1, by simp, ?_, ?_, .inl rfl⟩
    · exact fun W v u h h' => (impl_MeetTraces_bad v u b b' L L' W h h' (by omega) (by omega) hc').mono fun e w' ⟨he, hb⟩ => ⟨_, he, Ow.nil _ _, hb⟩
    · exact fun W v u h h' => (spec_MeetTraces_bad v u b b' L L' W h h' (by omega) (by omega) hc').mono fun e w' ⟨he, hb⟩ => ⟨_, he, Ow.nil _ _, hb⟩
theorem compl_both (b : Bool) (L : List Int) (hL : L.length ≤ 100) (hc : okT L = true) : Tr1 9 b L (!b) L 0 ∧ Tr1 10 b L (!b) L 0 :=
  ⟨fun W v h => impl_ComplementTrace_ok v b L W h (by omega) hc, fun W v h => spec_ComplementTrace_ok v b L W h (by omega) hc⟩
theorem box_both (b : Bool) (L : List Int) (hL : L.length ≤ 100) (hc : okT L = true) :
    ∃ bb BL k, BL.length ≤ 100 ∧ Tr1 11 b L bb BL k ∧ Tr1 12 b L bb BL k ∧ (k = 0 → (outL b L).length ≤ 40 → (!rk (.un .box (oF b L)) 0 60) = bb ∧ trOf (rk (.un .box (oF b L)) 0) = BL) := by
  cases hA : (!b && decide (L.length = 0))
  · have hf := ff_fs hc hA
    rcases Nat.lt_or_ge 60 (fsT b L 62 0) with q | q
    · exact ⟨false, [], 3, by simp, fun W v h => (impl_BoxTrace_all v b L W h (by omega) hc _ 3 rfl (.inr ⟨hf.2 q, rfl⟩)).mono fun e w' ⟨he, hb⟩ => ⟨_, he, Ow.nil _ _, hb⟩,
        fun W v h => (spec_BoxTrace_big v b L W h (by omega) hc hA q).mono fun e w' ⟨he, hb⟩ => ⟨_, he, Ow.nil _ _, hb⟩, fun h => absurd h (by decide)⟩
    · refine ⟨true, shL (fsT b L 62 0 + 1), 0, by rw [shL_length]; omega, fun W v h => impl_BoxTrace_ok v b L W h (by omega) hc _ (hf.1 q) q, fun W v h => spec_BoxTrace_ok v b L W h (by omega) hc _ hA ⟨rfl, q⟩, fun _ hl => ?_⟩
      have e := hf.1 q
      rcases box_tr hc hl with ⟨h1, _⟩ | ⟨t, h1, _, h3, h4⟩
      · omega
      · obtain rfl : t = fsT b L 62 0 := by omega
        exact ⟨h3, h4⟩
  · obtain ⟨rfl, rfl⟩ : b = false ∧ L = [] := by
      simp only [Bool.and_eq_true, Bool.not_eq_true', decide_eq_true_eq] at hA
      exact ⟨hA.1, List.eq_nil_of_length_eq_zero hA.2⟩
    refine ⟨false, [], 0, by simp, fun W v h => (impl_BoxTrace_all v false [] W h (by simp) hc (-1) 0 rfl (.inl ⟨by decide, rfl⟩)).mono fun e w' ⟨he, hb⟩ => ⟨_, he, Ow.nil _ _, hb⟩,
      fun W v h => spec_BoxTrace_all v false [] W h (by simp) hc hA trivial, fun _ hl => ?_⟩
    rcases box_tr hc hl with ⟨_, h2, h3⟩ | ⟨t, h1, _⟩
    · exact ⟨h2, h3⟩
    · have : ffT false [] = -1 := rfl
      omega
theorem spec_PrefixFormula_box (v : Value) (f : Fm) (w : World) (h : Sl cN w v (enc f)) (hok : f.ok = true) (hl : (enc f).length ≤ 40) :
    Calls Tryz.prog 18 #[.int .i64 5, v] w fun e w' => ∃ u, e = .returned (.tuple #[u, .int .i64 (madeC (enc (.un .box f)))]) ∧ Ow cN 55 w.heap.size w' u (madeL (enc (.un .box f))) ∧ Below w.heap.size w w' := by
  have h1 : isF (enc f) = true := (isF_iff _).2 ⟨f, hok, rfl, hl⟩
  have H1 := Lib.hid (h1 ▸ spec_l02Is v (enc f) w h (by omega))
  have H2 := Lib.hid (spec_l02Pre 5 v (enc f) w h (by omega))
  clear h1 h
  have e1 : enc (.un .box f) = (5, 0) :: enc f := rfl
  rw [e1]
  clear e1
  go_enter Tryz.func18, Tryz.ntmps18
  go_wp2_with fail
  refine H1.out.mono ?_
  rintro e w1 ⟨rfl, rfl⟩
  go_wp2_with fail
  refine H2.out.mono ?_
  rintro e w2 ⟨u, rfl, ho, hb⟩
  have HB := Lib.hid hb
  clear hb
  go_wp2_with fail
  refine (spec_l02Made u _ _ w2 ho).mono ?_
  rintro e w3 ⟨u2, rfl, ho2, rfl⟩
  have HO := Lib.hid ho2
  clear ho ho2
  go_wp2
  exact bodyPost_ret (v := .tuple #[u2, .int .i64 (madeC ((5, 0) :: enc f))]) (by simp [results, Tryz.results18, go_sem]) rfl ⟨_, rfl, HO.out, HB.out⟩
/-- FormulaOfTrace yields these nodes and this code -/
def TrF (f : Nat) (b : Bool) (L : List Int) (xs : List Nd) (k : Int) : Prop := ∀ W v, Sl cI W v L →
  Calls Tryz.prog f #[.agg #[.bool b, v]] W fun e w' => ∃ r, e = .returned (.tuple #[r, .int .i64 k]) ∧ Ow cN 55 W.heap.size w' r xs ∧ Below W.heap.size W w'
theorem form_both (b : Bool) (L : List Int) (hL : L.length ≤ 100) (hc : okT L = true) (h : (outL b L).length ≤ 40) :
    TrF 14 b L (enc (oF b L)) 0 ∧ TrF 15 b L (enc (oF b L)) 0 := by
  have e1 : madeC (outL b L) = 0 := if_pos h
  have e2 : madeL (outL b L) = enc (oF b L) := (if_pos h).trans (oF_enc b L).symm
  refine ⟨fun W v hv => ?_, fun W v hv => ?_⟩
  · have := impl_FormulaOfTrace_ok v b L W hv (by omega) hc
    rw [e1, e2] at this
    exact this
  · have := spec_FormulaOfTrace_ok v b L W hv (by omega) hc
    rw [e1, e2] at this
    exact this
theorem form_long (b : Bool) (L : List Int) (hL : L.length ≤ 100) (hc : okT L = true) (h : ¬ (outL b L).length ≤ 40) :
    TrF 14 b L [] 3 ∧ TrF 15 b L [] 3 := by
  have e1 : madeC (outL b L) = 3 := if_neg h
  have e2 : madeL (outL b L) = [] := if_neg h
  refine ⟨fun W v hv => ?_, fun W v hv => ?_⟩
  · have := impl_FormulaOfTrace_ok v b L W hv (by omega) hc
    rw [e1, e2] at this
    exact this
  · have := spec_FormulaOfTrace_ok v b L W hv (by omega) hc
    rw [e1, e2] at this
    exact this
/-- TraceOf at these nodes yields this trace -/
def TrO (xs : List Nd) (b : Bool) (L : List Int) : Prop := ∀ W v, Sl cN W v xs →
  Calls Tryz.prog 17 #[v] W fun e w' => ∃ r, e = .returned (.tuple #[.agg #[.bool b, r], .int .i64 0]) ∧ Ow cI 2 W.heap.size w' r L ∧ Below W.heap.size W w'
theorem own_trace (b : Bool) (L : List Int) (hc : okT L = true) (h : (outL b L).length ≤ 40) : TrO (enc (oF b L)) b L := fun W v hv => by
  have hl : (enc (oF b L)).length ≤ 40 := by rw [oF_enc]; exact h
  have := impl_TraceOf_ok v (oF b L) W hv hl (lcode_novar _ (oF_novar b L) hl)
  rw [oF_fin hc h, oF_tr hc h] at this
  exact this
theorem box_trace (b : Bool) (L : List Int) (bb : Bool) (BL : List Int) (h : (enc (.un .box (oF b L))).length ≤ 40) (h1 : (!rk (.un .box (oF b L)) 0 60) = bb) (h2 : trOf (rk (.un .box (oF b L)) 0) = BL) :
    TrO (enc (.un .box (oF b L))) bb BL := fun W v hv => by
  have := impl_TraceOf_ok v (.un .box (oF b L)) W hv h (lcode_novar _ (oF_novar b L) h)
  rw [h1, h2] at this
  exact this
theorem prefix_ok (f : Fm) (hok : f.ok = true) (hl : (enc (.un .box f)).length ≤ 40) (W : World) (v : Value) (h : Sl cN W v (enc f)) :
    Calls Tryz.prog 18 #[.int .i64 5, v] W fun e w' => ∃ u, e = .returned (.tuple #[u, .int .i64 0]) ∧ Ow cN 55 W.heap.size w' u (enc (.un .box f)) ∧ Below W.heap.size W w' := by
  have e1 : enc (.un .box f) = (5, 0) :: enc f := rfl
  have h2 : (enc f).length ≤ 40 := by rw [e1] at hl; simp at hl; omega
  have := spec_PrefixFormula_box v f W h hok h2
  rw [show madeC (enc (.un .box f)) = 0 from if_pos hl, show madeL (enc (.un .box f)) = enc (.un .box f) from if_pos hl] at this
  exact this
theorem prefix_long (f : Fm) (hok : f.ok = true) (h2 : (enc f).length ≤ 40) (hl : ¬ (enc (.un .box f)).length ≤ 40) (W : World) (v : Value) (h : Sl cN W v (enc f)) :
    Calls Tryz.prog 18 #[.int .i64 5, v] W fun e w' => ∃ u, e = .returned (.tuple #[u, .int .i64 3]) ∧ Below W.heap.size W w' := by
  have := spec_PrefixFormula_box v f W h hok h2
  rw [show madeC (enc (.un .box f)) = 3 from if_neg hl] at this
  exact this.mono fun e w' ⟨u, he, _, hb⟩ => ⟨u, he, hb⟩
end Go.Proofs.YtjpgiamblbgkpaaGreat

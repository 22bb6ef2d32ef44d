/- Contracts of LetterlessFixedPoint, of the program and of the reference. -/
import Derived.Test.YtgcoohlakcncbaaGreat33u
import Derived.Test.YtgcoohlakcncbaaGreatB6
namespace Go.Proofs.YtgcoohlakcncbaaGreat
open Go.RowKit
set_option linter.unusedVariables false
set_option linter.unusedSimpArgs false
theorem fpTr_length (f : Fm) : (trOf (fpS f 61).testBit).length ≤ 61 := trOf_length _
def fpOut (f : Fm) : List Nd := outL (!(fpS f 61).testBit 60) (trOf (fpS f 61).testBit)
theorem impl_LetterlessFixedPoint_no (v : Value) (s k : Int) (w : World) (hk : k ≠ 0)
    (h1 : Calls Tryz.prog 35 #[v, .int .i64 s] w fun e w' => e = .returned (.tuple #[.agg #[.bool false, .slice none 0 0], .int .i64 k]) ∧ Below w.heap.size w w') :
    Calls Tryz.prog 33 #[v, .int .i64 s] w fun e w' => e = .returned (.tuple #[.slice none 0 0, .int .i64 k]) ∧ Below w.heap.size w w' := by
  have H1 := Lib.hid h1
  have hc' : (k != 0) = true := by simpa using hk
  clear h1 hk
  go_enter Tryz.func33, Tryz.ntmps33
  go_wp2_with fail
  refine H1.out.mono ?_
  rintro e w1 ⟨rfl, hb⟩
  have HB := Lib.hid (hb.alloc hb.size (.cells #[.bool false, .slice none 0 0] 55)); clear hb
  go_wp2
  go_ret2
  exact ⟨rfl, HB.out⟩
theorem impl_LetterlessFixedPoint_ok (v : Value) (f : Fm) (s : Nat) (w : World) (h : Sl cN w v (enc f)) (hl : (enc f).length ≤ 40) (hok : f.ok = true) (hs : s ≤ 5) (hc : lone f s = true) :
    Calls Tryz.prog 33 #[v, .int .i64 s] w fun e w' => ∃ u, e = .returned (.tuple #[u, .int .i64 (madeC (fpOut f))]) ∧ Ow cN 82 w.heap.size w' u (madeL (fpOut f)) ∧ Below w.heap.size w w' := by
  have H1 := Lib.hid (impl_FixedPointTrace_ok v f s w h hl hok hs hc)
  have HL := Lib.hid (fpTr_length f)
  have HM := Lib.hid (trOf_mem (fpS f 61).testBit)
  clear h hc
  go_enter Tryz.func33, Tryz.ntmps33
  go_wp2_with fail
  refine H1.out.mono ?_
  rintro e w1 ⟨u, rfl, ho, hb⟩
  obtain ⟨A3, c3, rfl⟩ := ho.opn
  have hb1 := hb.alloc hb.size (.cells #[.bool (!(fpS f 61).testBit 60), .slice A3 (trOf (fpS f 61).testBit).length c3] 55)
  have hs := ho.sl.alloc (.cells #[.bool (!(fpS f 61).testBit 60), .slice A3 (trOf (fpS f 61).testBit).length c3] 55)
  go_wp2_with fail
  refine (impl_formula' _ _ _ _ hs HL.out HM.out).mono ?_
  rintro e w2 ⟨u, rfl, ho2, hb2⟩
  have HB := Lib.hid (bthen hb1 hb2)
  have hz := hb1.size
  have O : Hid (Ow cN 82 w.heap.size w2 u (fpOut f)) := Lib.hid (ho2.mono hz)
  clear hb hb1 hb2 ho ho2 hs
  go_wp2_with fail
  refine (impl_limited _ _ _ _ O.out).mono ?_
  rintro e w3 ⟨r, rfl, ho, rfl⟩
  have O2 := Lib.hid ho
  clear ho
  go_wp2
  go_ret2
  exact ⟨_, rfl, O2.out, HB.out⟩
theorem spec_LetterlessFixedPoint_bad (v : Value) (xs : List Nd) (s : Int) (w : World) (h : Sl cN w v xs) (hl : xs.length ≤ 1048576) (hc : vcode xs s ≠ 0) :
    Calls Tryz.prog 34 #[v, .int .i64 s] w fun e w' => e = .returned (.tuple #[.slice none 0 0, .int .i64 (vcode xs s)]) ∧ Below w.heap.size w w' := by
  have H1 := Lib.hid (spec_l33Code v xs s w h hl)
  have hc' : (vcode xs s != 0) = true := by simpa using hc
  generalize vcode xs s = k at *
  clear h hc
  go_enter Tryz.func34, Tryz.ntmps34
  go_wp2_with fail
  refine H1.out.mono ?_
  rintro e w1 ⟨rfl, rfl⟩
  go_wp2
  go_ret2
  exact ⟨rfl, Below.refl _ _⟩
theorem spec_LetterlessFixedPoint_state (v : Value) (f : Fm) (s : Nat) (w : World) (h : Sl cN w v (enc f)) (hl : (enc f).length ≤ 40) (hok : f.ok = true) (hs : s ≤ 5) (hc : lone f s = false) :
    Calls Tryz.prog 34 #[v, .int .i64 s] w fun e w' => e = .returned (.tuple #[.slice none 0 0, .int .i64 5]) ∧ Below w.heap.size w w' := by
  have hcode := vcode_ok ((isF_iff _).2 ⟨f, hok, rfl, hl⟩) hs
  have H1 := Lib.hid (hcode ▸ spec_l33Code v (enc f) s w h (by omega))
  have H2 := Lib.hid (hc ▸ spec_l33Alone f s v w h (by omega) hok hs)
  clear h hc hcode
  go_enter Tryz.func34, Tryz.ntmps34
  go_wp2_with fail
  refine H1.out.mono ?_
  rintro e w1 ⟨rfl, rfl⟩
  go_wp2_with fail
  refine H2.out.mono ?_
  rintro e w1 ⟨rfl, hb⟩
  have HB := Lib.hid hb
  clear hb
  go_wp2
  go_ret2
  exact ⟨rfl, HB.out⟩
theorem spec_LetterlessFixedPoint_ok (v : Value) (f : Fm) (s : Nat) (w : World) (h : Sl cN w v (enc f)) (hl : (enc f).length ≤ 40) (hok : f.ok = true) (hs : s ≤ 5) (hc : lone f s = true) :
    Calls Tryz.prog 34 #[v, .int .i64 s] w fun e w' => ∃ u, e = .returned (.tuple #[u, .int .i64 (madeC (fpOut f))]) ∧ Ow cN 82 w.heap.size w' u (madeL (fpOut f)) ∧ Below w.heap.size w w' := by
  have hcode := vcode_ok ((isF_iff _).2 ⟨f, hok, rfl, hl⟩) hs
  have H1 := Lib.hid (hcode ▸ spec_l33Code v (enc f) s w h (by omega))
  have H2 := Lib.hid (hc ▸ spec_l33Alone f s v w h (by omega) hok hs)
  have H3 := Lib.hid (fun W (hW : Sl cN W v (enc f)) => spec_l33Trace f v W hW (by omega))
  have HL := Lib.hid (fpTr_length f)
  have HM := Lib.hid (trOf_mem (fpS f 61).testBit)
  have Hh := Lib.hid h
  clear h hc hcode
  go_enter Tryz.func34, Tryz.ntmps34
  go_wp2_with fail
  refine H1.out.mono ?_
  rintro e w1 ⟨rfl, rfl⟩
  go_wp2_with fail
  refine H2.out.mono ?_
  rintro e w1 ⟨rfl, hb⟩
  go_wp2_with fail
  refine (H3.out _ (Hh.out.below hb)).mono ?_
  rintro e w2 ⟨u, rfl, ho, hb2⟩
  have hbb := bthen hb hb2
  have hs := ho.sl
  go_wp2_with fail
  refine (spec_formula' _ u _ _ hs HL.out HM.out).mono ?_
  rintro e w3 ⟨u3, rfl, ho3, hb3⟩
  have hz := hbb.size
  have O : Hid (Ow cN 82 w.heap.size w3 u3 (madeL (fpOut f))) := Lib.hid (ho3.mono hz)
  have HB := Lib.hid (bthen hbb hb3)
  clear hb hb2 hb3 hbb hs ho ho3
  go_wp2
  go_ret2
  exact ⟨_, rfl, O.out, HB.out⟩
end Go.Proofs.YtgcoohlakcncbaaGreat

/- Contracts of UniquenessFormula, of the program and of the reference. Written by gen34c.py. -/
import Derived.Test.YtgcoohlakcncbaaGreatN34
namespace Go.Proofs.YtgcoohlakcncbaaGreat
open Go.RowKit
set_option linter.unusedVariables false
set_option linter.unusedSimpArgs false
theorem impl_Un_bad (v : Value) (xs : List Nd) (s t : Int) (w : World) (h : Sl cN w v xs) (hl : xs.length ≤ 1048576) (hc : vcode xs s ≠ 0) :
    Calls Tryz.prog 14 #[v, .int .i64 s, .int .i64 t] w fun e w' => e = .returned (.tuple #[.slice none 0 0, .int .i64 (vcode xs s)]) ∧ Below w.heap.size w w' := by
  have H1 := Lib.hid (impl_variableCode v xs s w h hl)
  have hc' : (vcode xs s != 0) = true := by simpa using hc
  generalize vcode xs s = k at *
  clear h hc
  go_enter Tryz.func14, Tryz.ntmps14
  go_wp2_with fail
  refine H1.out.mono ?_
  rintro e w1 ⟨rfl, hb⟩
  have HB := Lib.hid hb; clear hb
  go_wp2
  go_ret2
  exact ⟨rfl, HB.out⟩
theorem impl_Un_rng (v : Value) (f : Fm) (s : Nat) (t : Int) (w : World) (h : Sl cN w v (enc f)) (hl : (enc f).length ≤ 40) (hok : f.ok = true) (hs : s ≤ 5) (hbad : inR t 0 5 = false ∨ t = s ∨ occ (enc f) t = true) :
    Calls Tryz.prog 14 #[v, .int .i64 s, .int .i64 t] w fun e w' => e = .returned (.tuple #[.slice none 0 0, .int .i64 2]) ∧ Below w.heap.size w w' := by
  have hcode := vcode_ok ((isF_iff _).2 ⟨f, hok, rfl, hl⟩) hs
  have H1 := Lib.hid (hcode ▸ impl_variableCode v (enc f) s w h (by omega))
  have H2 := Lib.hid (fun W (hW : Sl cN W v (enc f)) => impl_variableMask v (enc f) W hW (by omega) (enc_nodes f hok))
  have hm := vmask_lt _ (enc_nodes f hok)
  have Hh := Lib.hid h
  clear h hcode
  cases hI : inR t 0 5
  · have HI := Lib.hid hI
    clear hI hbad
    go_enter Tryz.func14, Tryz.ntmps14
    go_wp2_with fail
    refine H1.out.mono ?_
    rintro e w1 ⟨rfl, hb⟩
    have HB := Lib.hid hb; clear hb
    go_wp2_with fail
    refine (impl_isVariable _ _).mono ?_
    rintro e w2 ⟨rfl, rfl⟩
    rw [HI.out]
    go_wp2
    go_ret2
    exact ⟨rfl, HB.out⟩
  · have HI := Lib.hid hI
    by_cases hts : t = s
    · subst hts
      have d1 : ((s : Int) == (s : Int)) = true := by simp
      clear hI hbad
      go_enter Tryz.func14, Tryz.ntmps14
      go_wp2_with fail
      refine H1.out.mono ?_
      rintro e w1 ⟨rfl, hb⟩
      have HB := Lib.hid hb; clear hb
      go_wp2_with fail
      refine (impl_isVariable _ _).mono ?_
      rintro e w2 ⟨rfl, rfl⟩
      rw [HI.out]
      go_wp2
      go_ret2
      exact ⟨rfl, HB.out⟩
    · have ho : occ (enc f) t = true := by
        rcases hbad with h | h | h
        · rw [hI] at h; cases h
        · exact absurd h hts
        · exact h
      have hr := inR_iff.1 hI
      obtain ⟨n, rfl⟩ := Int.eq_ofNat_of_zero_le hr.1
      have d1 : ((n : Int) == (s : Int)) = false := beq_eq_false_iff_ne.2 hts
      have HO : Hid ((vmask (enc f)).testBit n = true) := Lib.hid (by rw [← occ_bit _ _ (enc_nodes f hok)]; exact ho)
      clear hI hbad ho hts
      go_enter Tryz.func14, Tryz.ntmps14
      go_wp2_with fail
      refine H1.out.mono ?_
      rintro e w1 ⟨rfl, hb⟩
      have HB := Lib.hid hb; clear hb
      go_wp2_with fail
      refine (impl_isVariable _ _).mono ?_
      rintro e w2 ⟨rfl, rfl⟩
      rw [HI.out]
      go_wp2_with fail
      refine (H2.out _ (Hh.out.below HB.out)).mono ?_
      rintro e w3 ⟨rfl, hb⟩
      replace HB := Lib.hid (bthen HB.out hb); clear hb
      go_wp2_with fail
      refine (impl_has (vmask (enc f)) n _ (by omega) (by omega)).mono ?_
      rintro e w4 ⟨rfl, rfl⟩
      rw [HO.out]
      go_wp2
      go_ret2
      exact ⟨rfl, HB.out⟩
theorem impl_Un_ok (v : Value) (f : Fm) (s n : Nat) (w : World) (h : Sl cN w v (enc f)) (hl : (enc f).length ≤ 40) (hok : f.ok = true) (hs : s ≤ 5) (hn : n ≤ 5) (hts : ¬ n = s) (ho : occ (enc f) n = false) :
    Calls Tryz.prog 14 #[v, .int .i64 s, .int .i64 n] w fun e w' => ∃ u, e = .returned (.tuple #[u, .int .i64 (madeC (unL (enc f) s n))]) ∧ Ow cN 82 w.heap.size w' u (madeL (unL (enc f) s n)) ∧ Below w.heap.size w w' := by
  have hcode := vcode_ok ((isF_iff _).2 ⟨f, hok, rfl, hl⟩) hs
  have H1 := Lib.hid (hcode ▸ impl_variableCode v (enc f) s w h (by omega))
  have H2 := Lib.hid (fun W (hW : Sl cN W v (enc f)) => impl_variableMask v (enc f) W hW (by omega) (enc_nodes f hok))
  have hm := vmask_lt _ (enc_nodes f hok)
  have Hh := Lib.hid h
  have HI := Lib.hid (inR_true (x := (n : Int)) (l := 0) (h := 5) (by omega) (by omega))
  have d1 : ((n : Int) == (s : Int)) = false := beq_eq_false_iff_ne.2 (by omega)
  have HO : Hid ((vmask (enc f)).testBit n = false) := Lib.hid (by rw [← occ_bit _ _ (enc_nodes f hok)]; exact ho)
  have HE := Lib.hid (unE_length (enc f) s hl)
  have HG := Lib.hid (unG_length (enc f) s n hl)
  have HN := Lib.hid (unE_nodes f s hok hs)
  clear h hcode ho hts
  go_enter Tryz.func14, Tryz.ntmps14
  go_wp2_with fail
  refine H1.out.mono ?_
  rintro e w1 ⟨rfl, hb⟩
  have HB := Lib.hid hb; clear hb
  go_wp2_with fail
  refine (impl_isVariable _ _).mono ?_
  rintro e w2 ⟨rfl, rfl⟩
  rw [HI.out]
  go_wp2_with fail
  refine (H2.out _ (Hh.out.below HB.out)).mono ?_
  rintro e w3 ⟨rfl, hb⟩
  replace HB := Lib.hid (bthen HB.out hb); clear hb
  go_wp2_with fail
  refine (impl_has (vmask (enc f)) n _ (by omega) (by omega)).mono ?_
  rintro e w4 ⟨rfl, rfl⟩
  rw [HO.out]
  go_wp2_with fail
  refine (impl_var s _).mono ?_
  rintro e w10 ⟨r_v1, rfl, ho, hb⟩
  have hz := HB.out.size
  have O_v1 := Lib.hid (ho.mono hz)
  replace HB := Lib.hid (bthen HB.out hb)
  clear ho hb hz
  go_wp2_with fail
  refine (impl_equality _ _ _ _ _ O_v1.out.sl (Hh.out.below HB.out) (by simp) (by omega)).mono ?_
  rintro e w11 ⟨r_e, rfl, ho, hb⟩
  have hz := HB.out.size
  have O_e := Lib.hid (ho.mono hz)
  replace HB := Lib.hid (bthen HB.out hb)
  clear ho hb hz
  go_wp2_with fail
  refine (impl_var n _).mono ?_
  rintro e w12 ⟨r_v2, rfl, ho, hb⟩
  replace O_e := Lib.hid (O_e.out.below hb)
  have hz := HB.out.size
  have O_v2 := Lib.hid (ho.mono hz)
  replace HB := Lib.hid (bthen HB.out hb)
  clear ho hb hz
  go_wp2_with fail
  refine (impl_replaceVariable _ _ (unE (enc f) s) _ s _ O_e.out.sl O_v2.out.sl HN.out (by have := HE.out; omega) (by simp) hs).mono ?_
  rintro e w13 ⟨r_g, rfl, ho, hb⟩
  replace O_e := Lib.hid (O_e.out.below hb)
  have hz := HB.out.size
  have O_g := Lib.hid (ho.mono hz)
  replace HB := Lib.hid (bthen HB.out hb)
  clear ho hb hz
  go_wp2_with fail
  refine (impl_join 2 _ _ (unE (enc f) s) (unG (enc f) s n) _ O_e.out.sl O_g.out.sl (by have := HE.out; omega) (by have := HG.out; omega)).mono ?_
  rintro e w14 ⟨r_j, rfl, ho, hb⟩
  have hz := HB.out.size
  have O_j := Lib.hid (ho.mono hz)
  replace HB := Lib.hid (bthen HB.out hb)
  clear ho hb hz
  go_wp2_with fail
  refine (impl_boxed _ _ _ O_j.out.sl (by have := HE.out; have := HG.out; simp; omega)).mono ?_
  rintro e w15 ⟨r_b1, rfl, ho, hb⟩
  have hz := HB.out.size
  have O_b1 := Lib.hid (ho.mono hz)
  replace HB := Lib.hid (bthen HB.out hb)
  clear ho hb hz
  go_wp2_with fail
  refine (impl_var s _).mono ?_
  rintro e w16 ⟨r_v3, rfl, ho, hb⟩
  replace O_b1 := Lib.hid (O_b1.out.below hb)
  have hz := HB.out.size
  have O_v3 := Lib.hid (ho.mono hz)
  replace HB := Lib.hid (bthen HB.out hb)
  clear ho hb hz
  go_wp2_with fail
  refine (impl_var n _).mono ?_
  rintro e w17 ⟨r_v4, rfl, ho, hb⟩
  replace O_b1 := Lib.hid (O_b1.out.below hb)
  replace O_v3 := Lib.hid (O_v3.out.below hb)
  have hz := HB.out.size
  have O_v4 := Lib.hid (ho.mono hz)
  replace HB := Lib.hid (bthen HB.out hb)
  clear ho hb hz
  obtain ⟨A3, c3, rfl⟩ := O_v3.out.opn
  obtain ⟨A4, c4, rfl⟩ := O_v4.out.opn
  simp only [List.length_cons, List.length_nil, Nat.zero_add] at O_v3 O_v4 ⊢
  go_wp2_with fail
  refine (impl_arrow_of _ _ _ O_v3.out.sl O_v4.out.sl (by simp) (by simp) _ rfl).mono ?_
  rintro e w19 ⟨r_a1, rfl, ho, hb⟩
  replace O_b1 := Lib.hid (O_b1.out.below hb)
  have hz := HB.out.size
  have O_a1 := Lib.hid (ho.mono hz)
  replace HB := Lib.hid (bthen HB.out hb)
  clear ho hb hz
  go_wp2_with fail
  refine (impl_boxed _ _ _ O_a1.out.sl (by simp)).mono ?_
  rintro e w20 ⟨r_b2, rfl, ho, hb⟩
  replace O_b1 := Lib.hid (O_b1.out.below hb)
  have hz := HB.out.size
  have O_b2 := Lib.hid (ho.mono hz)
  replace HB := Lib.hid (bthen HB.out hb)
  clear ho hb hz
  obtain ⟨X1, hX1⟩ : ∃ X : List Nd, X = (5, 0) :: ([(2, 0)] ++ unE (enc f) s ++ unG (enc f) s n) := ⟨_, rfl⟩
  obtain ⟨X2, hX2⟩ : ∃ X : List Nd, X = (5, 0) :: ([(4, 0)] ++ [(0, (s : Int))] ++ [(0, (n : Int))]) := ⟨_, rfl⟩
  have hl1 : X1.length ≤ 262144 := by rw [hX1]; have := HE.out; have := HG.out; simp; omega
  have hl2 : X2.length ≤ 262144 := by rw [hX2]; simp
  rw [← hX1] at O_b1
  rw [← hX2] at O_b2
  have HX1 := Lib.hid hX1; have HX2 := Lib.hid hX2
  clear hX1 hX2
  obtain ⟨A5, c5, rfl⟩ := O_b1.out.opn
  obtain ⟨A6, c6, rfl⟩ := O_b2.out.opn
  go_wp2_with fail
  refine (impl_arrow_of X1 X2 _ O_b1.out.sl O_b2.out.sl hl1 hl2 _ rfl).mono ?_
  rintro e w22 ⟨r_z, rfl, ho, hb⟩
  have hz := HB.out.size
  have O_z := Lib.hid (ho.mono hz)
  replace HB := Lib.hid (bthen HB.out hb)
  clear ho hb hz
  have OZ : Hid (Ow cN 82 w.heap.size _ _ (unL (enc f) s n)) := Lib.hid (by have := O_z.out; rw [HX1.out, HX2.out] at this; exact this)
  go_wp2_with fail
  refine (impl_limited _ _ _ _ OZ.out).mono ?_
  rintro e w40 ⟨r, rfl, ho, rfl⟩
  have O2 := Lib.hid ho
  clear ho
  go_wp2
  go_ret2
  exact ⟨_, rfl, O2.out, HB.out⟩
theorem spec_Un_bad (v : Value) (xs : List Nd) (s t : Int) (w : World) (h : Sl cN w v xs) (hl : xs.length ≤ 1048576) (hc : vcode xs s ≠ 0) :
    Calls Tryz.prog 15 #[v, .int .i64 s, .int .i64 t] w fun e w' => e = .returned (.tuple #[.slice none 0 0, .int .i64 (vcode xs s)]) ∧ Below w.heap.size w w' := by
  have H1 := Lib.hid (spec_l33Code v xs s w h hl)
  have hc' : (vcode xs s != 0) = true := by simpa using hc
  generalize vcode xs s = k at *
  clear h hc
  go_enter Tryz.func15, Tryz.ntmps15
  go_wp2_with fail
  refine H1.out.mono ?_
  rintro e w1 ⟨rfl, rfl⟩
  go_wp2
  go_ret2
  exact ⟨rfl, Below.refl _ _⟩
theorem spec_Un_rng (v : Value) (f : Fm) (s : Nat) (t : Int) (w : World) (h : Sl cN w v (enc f)) (hl : (enc f).length ≤ 40) (hok : f.ok = true) (hs : s ≤ 5) (hbad : inR t 0 5 = false ∨ t = s ∨ occ (enc f) t = true) :
    Calls Tryz.prog 15 #[v, .int .i64 s, .int .i64 t] w fun e w' => e = .returned (.tuple #[.slice none 0 0, .int .i64 2]) ∧ Below w.heap.size w w' := by
  have hcode := vcode_ok ((isF_iff _).2 ⟨f, hok, rfl, hl⟩) hs
  have H1 := Lib.hid (hcode ▸ spec_l33Code v (enc f) s w h (by omega))
  have H2 := Lib.hid (fun W (hW : Sl cN W v (enc f)) => spec_l33Occurs v (enc f) t W hW (by omega))
  have Hh := Lib.hid h
  clear h hcode
  cases hI : inR t 0 5
  · have HI := Lib.hid hI
    clear hI hbad
    go_enter Tryz.func15, Tryz.ntmps15
    go_wp2_with fail
    refine H1.out.mono ?_
    rintro e w1 ⟨rfl, rfl⟩
    have HB : Hid (Below w.heap.size w w) := Lib.hid (Below.refl _ _)
    go_wp2_with fail
    refine (spec_l01In _ _ _ _).mono ?_
    rintro e w2 ⟨rfl, rfl⟩
    rw [HI.out]
    go_wp2
    go_ret2
    exact ⟨rfl, HB.out⟩
  · have HI := Lib.hid hI
    by_cases hts : t = s
    · subst hts
      have d1 : ((s : Int) == (s : Int)) = true := by simp
      clear hI hbad
      go_enter Tryz.func15, Tryz.ntmps15
      go_wp2_with fail
      refine H1.out.mono ?_
      rintro e w1 ⟨rfl, rfl⟩
      have HB : Hid (Below w.heap.size w w) := Lib.hid (Below.refl _ _)
      go_wp2_with fail
      refine (spec_l01In _ _ _ _).mono ?_
      rintro e w2 ⟨rfl, rfl⟩
      rw [HI.out]
      go_wp2
      go_ret2
      exact ⟨rfl, HB.out⟩
    · have ho : occ (enc f) t = true := by
        rcases hbad with h | h | h
        · rw [hI] at h; cases h
        · exact absurd h hts
        · exact h
      have hr := inR_iff.1 hI
      obtain ⟨n, rfl⟩ := Int.eq_ofNat_of_zero_le hr.1
      have d1 : ((n : Int) == (s : Int)) = false := beq_eq_false_iff_ne.2 hts
      have HO : Hid (occ (enc f) n = true) := Lib.hid ho
      clear hI hbad ho hts
      go_enter Tryz.func15, Tryz.ntmps15
      go_wp2_with fail
      refine H1.out.mono ?_
      rintro e w1 ⟨rfl, rfl⟩
      have HB : Hid (Below w.heap.size w w) := Lib.hid (Below.refl _ _)
      go_wp2_with fail
      refine (spec_l01In _ _ _ _).mono ?_
      rintro e w2 ⟨rfl, rfl⟩
      rw [HI.out]
      go_wp2_with fail
      refine (H2.out _ (Hh.out.below HB.out)).mono ?_
      rintro e w3 ⟨rfl, rfl⟩
      rw [HO.out]
      go_wp2
      go_ret2
      exact ⟨rfl, HB.out⟩
theorem spec_Un_ok (v : Value) (f : Fm) (s n : Nat) (w : World) (h : Sl cN w v (enc f)) (hl : (enc f).length ≤ 40) (hok : f.ok = true) (hs : s ≤ 5) (hn : n ≤ 5) (hts : ¬ n = s) (ho : occ (enc f) n = false) :
    Calls Tryz.prog 15 #[v, .int .i64 s, .int .i64 n] w fun e w' => ∃ u, e = .returned (.tuple #[u, .int .i64 (madeC (unL (enc f) s n))]) ∧ Ow cN 82 w.heap.size w' u (madeL (unL (enc f) s n)) ∧ Below w.heap.size w w' := by
  have hcode := vcode_ok ((isF_iff _).2 ⟨f, hok, rfl, hl⟩) hs
  have H1 := Lib.hid (hcode ▸ spec_l33Code v (enc f) s w h (by omega))
  have H2 := Lib.hid (fun W (hW : Sl cN W v (enc f)) => spec_l33Occurs v (enc f) n W hW (by omega))
  have Hh := Lib.hid h
  have HI := Lib.hid (inR_true (x := (n : Int)) (l := 0) (h := 5) (by omega) (by omega))
  have d1 : ((n : Int) == (s : Int)) = false := beq_eq_false_iff_ne.2 (by omega)
  have HO : Hid (occ (enc f) n = false) := Lib.hid ho
  have HE := Lib.hid (unE_length (enc f) s hl)
  have HG := Lib.hid (unG_length (enc f) s n hl)
  have HN := Lib.hid (unE_nodes f s hok hs)
  clear h hcode ho hts
  go_enter Tryz.func15, Tryz.ntmps15
  go_wp2_with fail
  refine H1.out.mono ?_
  rintro e w1 ⟨rfl, rfl⟩
  have HB : Hid (Below w.heap.size w w) := Lib.hid (Below.refl _ _)
  go_wp2_with fail
  refine (spec_l01In _ _ _ _).mono ?_
  rintro e w2 ⟨rfl, rfl⟩
  rw [HI.out]
  go_wp2_with fail
  refine (H2.out _ (Hh.out.below HB.out)).mono ?_
  rintro e w3 ⟨rfl, rfl⟩
  rw [HO.out]
  go_wp2_with fail
  refine (spec_var s _).mono ?_
  rintro e w10 ⟨r_v1, rfl, ho, hb⟩
  have hz := HB.out.size
  have O_v1 := Lib.hid (ho.mono hz)
  replace HB := Lib.hid (bthen HB.out hb)
  clear ho hb hz
  go_wp2_with fail
  refine (spec_l33Equal _ _ _ _ _ O_v1.out.sl (Hh.out.below HB.out) (by simp) (by omega)).mono ?_
  rintro e w11 ⟨r_e, rfl, ho, hb⟩
  have hz := HB.out.size
  have O_e := Lib.hid (ho.mono hz)
  replace HB := Lib.hid (bthen HB.out hb)
  clear ho hb hz
  go_wp2_with fail
  refine (spec_var n _).mono ?_
  rintro e w12 ⟨r_v2, rfl, ho, hb⟩
  replace O_e := Lib.hid (O_e.out.below hb)
  have hz := HB.out.size
  have O_v2 := Lib.hid (ho.mono hz)
  replace HB := Lib.hid (bthen HB.out hb)
  clear ho hb hz
  go_wp2_with fail
  refine (spec_bind s _ _ _ O_v2.out.sl (by simp) hs).mono ?_
  rintro e w30 ⟨r_b, rfl, hi, hb⟩
  replace O_e := Lib.hid (O_e.out.below hb)
  have HS := Lib.hid hi
  replace HB := Lib.hid (bthen HB.out hb)
  clear hi hb
  go_wp2_with fail
  refine (spec_sub _ _ (unE (enc f) s) _ _ O_e.out.sl HS.out (node_ims HN.out s _) (by have := HE.out; omega) (repL_ims s _ 4096 (by omega) (by simp))).mono ?_
  rintro e w14 ⟨r_g, rfl, ho, hb⟩
  replace O_e := Lib.hid (O_e.out.below hb)
  have hz := HB.out.size
  have O_g := Lib.hid (ho.mono hz)
  replace HB := Lib.hid (bthen HB.out hb)
  clear ho hb hz
  go_wp2_with fail
  refine (spec_l02Pair 2 _ _ (unE (enc f) s) (unG (enc f) s n) _ O_e.out.sl O_g.out.sl (by have := HE.out; omega) (by have := HG.out; omega)).mono ?_
  rintro e w15 ⟨r_j, rfl, ho, hb⟩
  have hz := HB.out.size
  have O_j := Lib.hid (ho.mono hz)
  replace HB := Lib.hid (bthen HB.out hb)
  clear ho hb hz
  go_wp2_with fail
  refine (spec_l02Pre 5 _ _ _ O_j.out.sl (by have := HE.out; have := HG.out; simp; omega)).mono ?_
  rintro e w16 ⟨r_b1, rfl, ho, hb⟩
  have hz := HB.out.size
  have O_b1 := Lib.hid (ho.mono hz)
  replace HB := Lib.hid (bthen HB.out hb)
  clear ho hb hz
  go_wp2_with fail
  refine (spec_var s _).mono ?_
  rintro e w17 ⟨r_v3, rfl, ho, hb⟩
  replace O_b1 := Lib.hid (O_b1.out.below hb)
  have hz := HB.out.size
  have O_v3 := Lib.hid (ho.mono hz)
  replace HB := Lib.hid (bthen HB.out hb)
  clear ho hb hz
  go_wp2_with fail
  refine (spec_var n _).mono ?_
  rintro e w18 ⟨r_v4, rfl, ho, hb⟩
  replace O_b1 := Lib.hid (O_b1.out.below hb)
  replace O_v3 := Lib.hid (O_v3.out.below hb)
  have hz := HB.out.size
  have O_v4 := Lib.hid (ho.mono hz)
  replace HB := Lib.hid (bthen HB.out hb)
  clear ho hb hz
  go_wp2_with fail
  refine (spec_l02Pair 4 _ _ _ _ _ O_v3.out.sl O_v4.out.sl (by simp) (by simp)).mono ?_
  rintro e w19 ⟨r_a1, rfl, ho, hb⟩
  replace O_b1 := Lib.hid (O_b1.out.below hb)
  have hz := HB.out.size
  have O_a1 := Lib.hid (ho.mono hz)
  replace HB := Lib.hid (bthen HB.out hb)
  clear ho hb hz
  go_wp2_with fail
  refine (spec_l02Pre 5 _ _ _ O_a1.out.sl (by simp)).mono ?_
  rintro e w20 ⟨r_b2, rfl, ho, hb⟩
  replace O_b1 := Lib.hid (O_b1.out.below hb)
  have hz := HB.out.size
  have O_b2 := Lib.hid (ho.mono hz)
  replace HB := Lib.hid (bthen HB.out hb)
  clear ho hb hz
  go_wp2_with fail
  refine (spec_l02Pair 4 _ _ _ _ _ O_b1.out.sl O_b2.out.sl (by have := HE.out; have := HG.out; simp; omega) (by simp)).mono ?_
  rintro e w21 ⟨r_z, rfl, ho, hb⟩
  have hz := HB.out.size
  have O_z := Lib.hid (ho.mono hz)
  replace HB := Lib.hid (bthen HB.out hb)
  clear ho hb hz
  have OZ : Hid (Ow cN 82 w.heap.size _ _ (unL (enc f) s n)) := Lib.hid O_z.out
  go_wp2_with fail
  refine (spec_l02Made _ _ _ _ OZ.out).mono ?_
  rintro e w40 ⟨r, rfl, ho, rfl⟩
  have O2 := Lib.hid ho
  clear ho
  go_wp2
  go_ret2
  exact ⟨_, rfl, O2.out, HB.out⟩
end Go.Proofs.YtgcoohlakcncbaaGreat

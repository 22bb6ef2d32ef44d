/- Joined of several texts: 24J, 24K. -/
import Derived.Test.YtomojninngdbeaaGreat24I
import Derived.Test.YtomojninngdbeaaGreat24G
import Derived.Test.YtomojninngdbeaaGreat05R
namespace Go.Proofs.YtomojninngdbeaaGreat
open Go.RowKit
set_option linter.unusedVariables false
set_option linter.unusedSimpArgs false
/- Contracts of chapter 17 and 24, of the program: isPlain, forcingCode, ForcedSet; on, squeezeAll, hasElement, CutDown. Written by gen24J.py. -/
theorem impl_isModalP (k : Int) (w : World) :
    Calls Tryz.prog 88 #[.int .i64 k] w fun e w' => e = .returned (.bool (k == 5 || k == 6)) ∧ w = w' := by
  by_cases h5 : k = 5
  · subst h5
    go_enter Tryz.func88, Tryz.ntmps88
    go_wp2
    go_ret
    exact ⟨rfl, rfl⟩
  · by_cases h6 : k = 6
    · subst h6
      go_enter Tryz.func88, Tryz.ntmps88
      go_wp2
      go_ret
      exact ⟨rfl, rfl⟩
    · have e5 : (k == 5) = false := by rw [beq_eq_false_iff_ne]; exact h5
      have e6 : (k == 6) = false := by rw [beq_eq_false_iff_ne]; exact h6
      rw [e5, e6]
      go_enter Tryz.func88, Tryz.ntmps88
      go_wp2
      go_ret
      exact ⟨rfl, rfl⟩
theorem en_isPlain_1 : ∀ (args : Array Value) (w : World), (callFunc 87 args).run Tryz.prog w = .ok (.enter 87 args) w := enters Tryz.func87 (by kernel_rfl) (by kernel_rfl)
theorem impl_isPlain_1 (a b : Int) (w : World) :
    Calls Tryz.prog 87 #[.agg #[.int .i64 a, .int .i64 b]] w fun e w' => e = .returned (.bool (plN (a, b))) ∧ Below w.heap.size w w' := by
  have HM := Lib.hid (fun W => impl_isModalP a W)
  go_enter Tryz.func87, Tryz.ntmps87
  go_wp2_with fail
  refine (HM.out _).mono ?_
  rintro e w1 ⟨rfl, rfl⟩
  go_wp2
  go_ret
  exact ⟨rfl, below_alloc' _ _⟩
theorem impl_isPlain (v : Value) (xs : List Nd) (w : World) (h : Sl cN w v xs) (hl : xs.length ≤ 1048576) :
    Calls Tryz.prog 57 #[v] w fun e w' => e = .returned (.bool (pl xs)) ∧ Below w.heap.size w w' := by
  have HC := Lib.hid (slices_ContainsFunc_node v xs 87 #[] plN w h (by omega) en_isPlain_1 (fun w' _ a b => by rw [Array.append_empty]; exact impl_isPlain_1 a b w'))
  clear h
  go_enter Tryz.func57, Tryz.ntmps57
  go_wp2_with fail
  refine HC.out.mono ?_
  rintro e w1 ⟨rfl, hb⟩
  have HB := Lib.hid hb; clear hb
  go_wp2
  go_ret
  exact ⟨rfl, HB.out⟩
set_option maxRecDepth 100000 in
theorem impl_forcingCode (ns us : List Nat) (v u a : Value) (L : List Nd) (w : World) (h : Sl cI w v (li ns)) (h' : Sl cI w u (li us)) (ha : Sl cN w a L) (hm : MdN ns us) (hv : vlOk ns.length (li ns) (li us) = true) (hl : L.length ≤ 1048576) :
    Calls Tryz.prog 30 #[.agg #[.int .i64 (ns.length : Int), v], u, a] w fun e w' => e = .returned (.int .i64 (pcode [L])) ∧ Below w.heap.size w w' := by
  have hv8 := hm.r.1
  obtain ⟨A0, c0, rfl⟩ := h.opn
  obtain ⟨A1, c1, rfl⟩ := h'.opn
  obtain ⟨A2, c2, rfl⟩ := ha.opn
  have HL := Lib.hid (li_length ns)
  have HU6 := Lib.hid (show (li us).length = 6 by rw [li_length, hm.l])
  have A := Lib.hid (Below.refl w.heap.size w)
  rw [HL.out] at h ⊢
  rw [HU6.out] at h' ⊢
  have HX := Lib.hid h
  have HV := Lib.hid h'
  have HA := Lib.hid ha
  have HP := Lib.hid (fun W (hW : Sl cI W (.slice A0 ns.length c0) (li ns)) (hV : Sl cI W (.slice A1 6 c1) (li us)) => hv ▸ impl_isValuation ns.length _ _ (li ns) (li us) W hW hV (by rw [HL.out]; omega) (by rw [HU6.out]; omega))
  have HF := Lib.hid (fun W (hW : Sl cN W (.slice A2 L.length c2) L) => impl_isFormula _ L W hW (by omega))
  have HQ := Lib.hid (fun W (hW : Sl cN W (.slice A2 L.length c2) L) => impl_isPlain _ L W hW hl)
  clear h h' ha hm hv
  cases h1 : isF L
  · have E : Hid (pcode [L] = 1) := Lib.hid (by unfold pcode; simp [h1])
    rw [h1] at HF
    clear h1
    go_enter Tryz.func30, Tryz.ntmps30
    go_upto_region 1 with fail
    have hb := below_alloc' w (.cells #[.int .i64 (ns.length : Int), .slice A0 ns.length c0] 26)
    have T1 := Lib.hid (Bk.new w #[.int .i64 (ns.length : Int), .slice A0 ns.length c0] 26)
    replace HX := Lib.hid (HX.out.below hb)
    replace HV := Lib.hid (HV.out.below hb)
    replace HA := Lib.hid (HA.out.below hb)
    replace A := Lib.hid (bthen A.out hb)
    clear hb
    generalize World.alloc w _ = w1 at *
    have T1s := T1.out.1
    have T1c := T1.out.2
    go_wp2_with fail
    clear T1s T1c
    refine (HP.out _ HX.out HV.out).mono ?_
    rintro e w2 ⟨rfl, hb⟩
    replace HX := Lib.hid (HX.out.below hb)
    replace HV := Lib.hid (HV.out.below hb)
    replace HA := Lib.hid (HA.out.below hb)
    replace T1 := Lib.hid (T1.out.below hb)
    replace A := Lib.hid (bthen A.out hb)
    clear hb
    go_wp2_with fail
    refine (HF.out _ HA.out).mono ?_
    rintro e w3 ⟨rfl, hb⟩
    replace HX := Lib.hid (HX.out.below hb)
    replace HV := Lib.hid (HV.out.below hb)
    replace HA := Lib.hid (HA.out.below hb)
    replace T1 := Lib.hid (T1.out.below hb)
    replace A := Lib.hid (bthen A.out hb)
    clear hb
    go_wp2
    go_ret
    exact ⟨by rw [E.out]; rfl, A.out⟩

  · rw [h1] at HF
    cases h2 : pl L
    · have E : Hid (pcode [L] = 5) := Lib.hid (by unfold pcode; simp [h1, h2])
      rw [h2] at HQ
      clear h1 h2
      go_enter Tryz.func30, Tryz.ntmps30
      go_upto_region 1 with fail
      have hb := below_alloc' w (.cells #[.int .i64 (ns.length : Int), .slice A0 ns.length c0] 26)
      have T1 := Lib.hid (Bk.new w #[.int .i64 (ns.length : Int), .slice A0 ns.length c0] 26)
      replace HX := Lib.hid (HX.out.below hb)
      replace HV := Lib.hid (HV.out.below hb)
      replace HA := Lib.hid (HA.out.below hb)
      replace A := Lib.hid (bthen A.out hb)
      clear hb
      generalize World.alloc w _ = w1 at *
      have T1s := T1.out.1
      have T1c := T1.out.2
      go_wp2_with fail
      clear T1s T1c
      refine (HP.out _ HX.out HV.out).mono ?_
      rintro e w2 ⟨rfl, hb⟩
      replace HX := Lib.hid (HX.out.below hb)
      replace HV := Lib.hid (HV.out.below hb)
      replace HA := Lib.hid (HA.out.below hb)
      replace T1 := Lib.hid (T1.out.below hb)
      replace A := Lib.hid (bthen A.out hb)
      clear hb
      go_wp2_with fail
      refine (HF.out _ HA.out).mono ?_
      rintro e w3 ⟨rfl, hb⟩
      replace HX := Lib.hid (HX.out.below hb)
      replace HV := Lib.hid (HV.out.below hb)
      replace HA := Lib.hid (HA.out.below hb)
      replace T1 := Lib.hid (T1.out.below hb)
      replace A := Lib.hid (bthen A.out hb)
      clear hb
      go_wp2_with fail
      refine (HQ.out _ HA.out).mono ?_
      rintro e w4 ⟨rfl, hb⟩
      replace HX := Lib.hid (HX.out.below hb)
      replace HV := Lib.hid (HV.out.below hb)
      replace HA := Lib.hid (HA.out.below hb)
      replace T1 := Lib.hid (T1.out.below hb)
      replace A := Lib.hid (bthen A.out hb)
      clear hb
      go_wp2
      go_ret
      exact ⟨by rw [E.out]; rfl, A.out⟩

    · have E : Hid (pcode [L] = 0) := Lib.hid (by unfold pcode; simp [h1, h2])
      rw [h2] at HQ
      clear h1 h2
      go_enter Tryz.func30, Tryz.ntmps30
      go_upto_region 1 with fail
      have hb := below_alloc' w (.cells #[.int .i64 (ns.length : Int), .slice A0 ns.length c0] 26)
      have T1 := Lib.hid (Bk.new w #[.int .i64 (ns.length : Int), .slice A0 ns.length c0] 26)
      replace HX := Lib.hid (HX.out.below hb)
      replace HV := Lib.hid (HV.out.below hb)
      replace HA := Lib.hid (HA.out.below hb)
      replace A := Lib.hid (bthen A.out hb)
      clear hb
      generalize World.alloc w _ = w1 at *
      have T1s := T1.out.1
      have T1c := T1.out.2
      go_wp2_with fail
      clear T1s T1c
      refine (HP.out _ HX.out HV.out).mono ?_
      rintro e w2 ⟨rfl, hb⟩
      replace HX := Lib.hid (HX.out.below hb)
      replace HV := Lib.hid (HV.out.below hb)
      replace HA := Lib.hid (HA.out.below hb)
      replace T1 := Lib.hid (T1.out.below hb)
      replace A := Lib.hid (bthen A.out hb)
      clear hb
      go_wp2_with fail
      refine (HF.out _ HA.out).mono ?_
      rintro e w3 ⟨rfl, hb⟩
      replace HX := Lib.hid (HX.out.below hb)
      replace HV := Lib.hid (HV.out.below hb)
      replace HA := Lib.hid (HA.out.below hb)
      replace T1 := Lib.hid (T1.out.below hb)
      replace A := Lib.hid (bthen A.out hb)
      clear hb
      go_wp2_with fail
      refine (HQ.out _ HA.out).mono ?_
      rintro e w4 ⟨rfl, hb⟩
      replace HX := Lib.hid (HX.out.below hb)
      replace HV := Lib.hid (HV.out.below hb)
      replace HA := Lib.hid (HA.out.below hb)
      replace T1 := Lib.hid (T1.out.below hb)
      replace A := Lib.hid (bthen A.out hb)
      clear hb
      go_wp2
      go_ret
      exact ⟨by rw [E.out]; rfl, A.out⟩

theorem pcode_one {L : List Nd} (h : pcode [L] = 0) : ∃ f : Fm, L = enc f ∧ f.ok = true ∧ f.plain = true ∧ (enc f).length ≤ 40 := by
  unfold pcode at h
  simp only [List.all_cons, List.all_nil, Bool.and_true] at h
  by_cases h1 : isF L = true
  · rw [if_pos h1] at h
    by_cases h2 : pl L = true
    · obtain ⟨f, hok, rfl, hl⟩ := (isF_iff L).1 h1
      exact ⟨f, rfl, hok, by rw [← pl_enc]; exact h2, hl⟩
    · rw [if_neg h2] at h; exact absurd h (by decide)
  · rw [if_neg h1] at h; exact absurd h (by decide)
set_option maxRecDepth 100000 in
theorem impl_ForcedSet_no (ns us : List Nat) (v u a : Value) (L : List Nd) (w : World) (h : Sl cI w v (li ns)) (h' : Sl cI w u (li us)) (ha : Sl cN w a L) (hm : MdN ns us) (hv : vlOk ns.length (li ns) (li us) = true) (hl : L.length ≤ 1048576) (hc : pcode [L] ≠ 0) :
    Calls Tryz.prog 11 #[.agg #[.int .i64 (ns.length : Int), v], u, a] w fun e w' => e = .returned (.tuple #[.int .i64 0, .int .i64 (pcode [L])]) ∧ Below w.heap.size w w' := by
  obtain ⟨A0, c0, rfl⟩ := h.opn
  obtain ⟨A1, c1, rfl⟩ := h'.opn
  obtain ⟨A2, c2, rfl⟩ := ha.opn
  have HL := Lib.hid (li_length ns)
  have HU6 := Lib.hid (show (li us).length = 6 by rw [li_length, hm.l])
  have A := Lib.hid (Below.refl w.heap.size w)
  rw [HL.out] at h ⊢
  rw [HU6.out] at h' ⊢
  have HX := Lib.hid h
  have HV := Lib.hid h'
  have HA := Lib.hid ha
  have HC := Lib.hid (fun W (hW : Sl cI W (.slice A0 ns.length c0) (li ns)) (hV : Sl cI W (.slice A1 6 c1) (li us)) (hA : Sl cN W (.slice A2 L.length c2) L) => impl_forcingCode ns us _ _ _ L W hW hV hA hm hv hl)
  clear h h' ha hm hv
  generalize pcode [L] = k at *
  have hk1 : (k == 0) = false := beq_eq_false_iff_ne.2 hc
  have hk2 : (k != 0) = true := bne_iff_ne.2 hc
  clear hc
  go_enter Tryz.func11, Tryz.ntmps11
  go_upto_region 1 with fail
  have hb := below_alloc' w (.cells #[.int .i64 (ns.length : Int), .slice A0 ns.length c0] 26)
  have T1 := Lib.hid (Bk.new w #[.int .i64 (ns.length : Int), .slice A0 ns.length c0] 26)
  replace HX := Lib.hid (HX.out.below hb)
  replace HV := Lib.hid (HV.out.below hb)
  replace HA := Lib.hid (HA.out.below hb)
  replace A := Lib.hid (bthen A.out hb)
  clear hb
  generalize World.alloc w _ = w1 at *
  have T1s := T1.out.1
  have T1c := T1.out.2
  go_wp2_with fail
  clear T1s T1c
  refine (HC.out _ HX.out HV.out HA.out).mono ?_
  rintro e w2 ⟨rfl, hb⟩
  replace HX := Lib.hid (HX.out.below hb)
  replace HV := Lib.hid (HV.out.below hb)
  replace HA := Lib.hid (HA.out.below hb)
  replace T1 := Lib.hid (T1.out.below hb)
  replace A := Lib.hid (bthen A.out hb)
  clear hb
  go_wp2
  go_ret2
  exact ⟨rfl, A.out⟩
set_option maxRecDepth 100000 in
theorem impl_ForcedSet_ok (ns us : List Nat) (v u a : Value) (f : Fm) (w : World) (h : Sl cI w v (li ns)) (h' : Sl cI w u (li us)) (ha : Sl cN w a (enc f)) (hm : MdN ns us) (hv : vlOk ns.length (li ns) (li us) = true) (hok : f.ok = true) (hpl : f.plain = true) (hl : (enc f).length ≤ 40) :
    Calls Tryz.prog 11 #[.agg #[.int .i64 (ns.length : Int), v], u, a] w fun e w' => e = .returned (.tuple #[.int .i64 (fv ns us f : Nat), .int .i64 0]) ∧ Below w.heap.size w w' := by
  have hpc : pcode [enc f] = 0 := by
    unfold pcode
    simp only [List.all_cons, List.all_nil, Bool.and_true]
    rw [if_pos ((isF_iff _).2 ⟨f, hok, rfl, hl⟩), if_pos (by rw [pl_enc]; exact hpl)]
  obtain ⟨A0, c0, rfl⟩ := h.opn
  obtain ⟨A1, c1, rfl⟩ := h'.opn
  obtain ⟨A2, c2, rfl⟩ := ha.opn
  have HL := Lib.hid (li_length ns)
  have HU6 := Lib.hid (show (li us).length = 6 by rw [li_length, hm.l])
  have A := Lib.hid (Below.refl w.heap.size w)
  rw [HL.out] at h ⊢
  rw [HU6.out] at h' ⊢
  have HX := Lib.hid h
  have HV := Lib.hid h'
  have HA := Lib.hid ha
  have HC := Lib.hid (fun W (hW : Sl cI W (.slice A0 ns.length c0) (li ns)) (hV : Sl cI W (.slice A1 6 c1) (li us)) (hA : Sl cN W (.slice A2 (enc f).length c2) (enc f)) => hpc ▸ impl_forcingCode ns us _ _ _ (enc f) W hW hV hA hm hv (by omega))
  have HF := Lib.hid (fun W (hW : Sl cI W (.slice A0 ns.length c0) (li ns)) (hV : Sl cI W (.slice A1 6 c1) (li us)) (hA : Sl cN W (.slice A2 (enc f).length c2) (enc f)) => impl_forced ns us f _ _ _ W hW hV hA hm.r hm.l hm.b hok hpl (by omega))
  clear h h' ha hm hv hpc
  go_enter Tryz.func11, Tryz.ntmps11
  go_upto_region 1 with fail
  have hb := below_alloc' w (.cells #[.int .i64 (ns.length : Int), .slice A0 ns.length c0] 26)
  have T1 := Lib.hid (Bk.new w #[.int .i64 (ns.length : Int), .slice A0 ns.length c0] 26)
  replace HX := Lib.hid (HX.out.below hb)
  replace HV := Lib.hid (HV.out.below hb)
  replace HA := Lib.hid (HA.out.below hb)
  replace A := Lib.hid (bthen A.out hb)
  clear hb
  generalize World.alloc w _ = w1 at *
  have T1s := T1.out.1
  have T1c := T1.out.2
  go_wp2_with fail
  clear T1s T1c
  refine (HC.out _ HX.out HV.out HA.out).mono ?_
  rintro e w2 ⟨rfl, hb⟩
  replace HX := Lib.hid (HX.out.below hb)
  replace HV := Lib.hid (HV.out.below hb)
  replace HA := Lib.hid (HA.out.below hb)
  replace T1 := Lib.hid (T1.out.below hb)
  replace A := Lib.hid (bthen A.out hb)
  clear hb
  have T1s := T1.out.1
  have T1c := T1.out.2
  go_wp2_with fail
  clear T1s T1c
  refine (HF.out _ HX.out HV.out HA.out).mono ?_
  rintro e w3 ⟨rfl, hb⟩
  replace HX := Lib.hid (HX.out.below hb)
  replace HV := Lib.hid (HV.out.below hb)
  replace HA := Lib.hid (HA.out.below hb)
  replace T1 := Lib.hid (T1.out.below hb)
  replace A := Lib.hid (bthen A.out hb)
  clear hb
  go_wp2
  go_ret2
  exact ⟨rfl, A.out⟩
/- Contracts of parts of valuations, of the program: on, squeezeAll, hasElement, CutDown. -/
set_option maxRecDepth 100000 in
theorem impl_on (ns : List Nat) (on : Nat) (v : Value) (w : World) (h : Sl cI w v (li ns)) (hr : RelN ns) (ho : on < 2 ^ ns.length) :
    Calls Tryz.prog 33 #[.agg #[.int .i64 (ns.length : Int), v], .int .i64 (on : Int)] w fun e w' => ∃ A c, e = .returned (.agg #[.int .i64 ((ptr ns on).length : Int), .slice A (ptr ns on).length c]) ∧ Ow cI 2 w.heap.size w' (.slice A (ptr ns on).length c) (li (ptr ns on)) ∧ Below w.heap.size w w' := by
  obtain ⟨A0, c0, rfl⟩ := h.opn
  have HL := Lib.hid (li_length ns)
  rw [HL.out] at h ⊢
  have HX := Lib.hid h
  have HPt := Lib.hid (fun W (hW : Sl cI W (.slice A0 ns.length c0) (li ns)) => impl_partOn _ ns on W hW hr ho)
  have HPL := Lib.hid (li_length (ptr ns on))
  have HPo := Lib.hid (fun u W (hW : Sl cI W u (li (ptr ns on))) => impl_posetOf u _ W hW)
  have A := Lib.hid (Below.refl w.heap.size w)
  clear h hr ho
  go_enter Tryz.func33, Tryz.ntmps33
  go_upto_region 1 with fail
  have hb := bthen (below_alloc' w (.cells #[.int .i64 ns.length, .slice A0 ns.length c0] 26)) (below_alloc' (World.alloc w (.cells #[.int .i64 ns.length, .slice A0 ns.length c0] 26)) (.cells #[.int .i64 0, .slice none 0 0] 26))
  have T1 := Lib.hid (Bk.new1 w #[.int .i64 ns.length, .slice A0 ns.length c0] 26 (.cells #[.int .i64 0, .slice none 0 0] 26))
  have HK : Hid (Blk (World.alloc (World.alloc w (.cells #[.int .i64 ns.length, .slice A0 ns.length c0] 26)) (.cells #[.int .i64 0, .slice none 0 0] 26)) (w.heap.size + 1) 26 #[.int .i64 0, .slice none 0 0]) := Lib.hid (Blk.new' _ 26 #[.int .i64 0, .slice none 0 0] (by simp))
  replace HX := Lib.hid (HX.out.below hb)
  replace A := Lib.hid (bthen A.out hb)
  clear hb
  generalize World.alloc (World.alloc w _) _ = w1 at *
  have T1s := T1.out.1
  have T1c := T1.out.2
  go_wp2_with fail
  clear T1s T1c
  refine (HPt.out _ HX.out).mono ?_
  rintro e w2 ⟨u, rfl, hO, hb⟩
  have hk1 := HK.out.lt
  have O := Lib.hid hO
  replace HK := Lib.hid (HK.out.below hb HK.out.lt)
  replace A := Lib.hid (bthen A.out hb)
  have ZA : Hid (w.heap.size + 1 < w1.heap.size) := Lib.hid hk1
  clear hb hO T1 HX hk1
  obtain ⟨A3, c3, rfl⟩ := O.out.opn
  rw [HPL.out] at O ⊢
  go_wp2_with fail
  refine (HPo.out _ _ O.out.sl).mono ?_
  rintro e w3 ⟨rfl, hb⟩
  replace HK := Lib.hid (HK.out.below hb HK.out.lt)
  replace A := Lib.hid (bthen A.out hb)
  replace O := Lib.hid (O.out.below hb)
  rw [HPL.out]
  have rc := HK.out.cell
  have rf := HK.out.frozen
  have rl := HK.out.lt
  have zA := ZA.out
  clear hb
  go_wp2
  refine bodyPost_ret (v := .agg #[.int .i64 ((ptr ns on).length : Int), .slice A3 (ptr ns on).length c3]) (by simp [results, Tryz.results33, go_sem, rc, rf, rl]) rfl ⟨_, _, rfl, ?_, ?_⟩
  · exact ((O.out.setBelow zA _).setBelow zA _).mono (by omega)
  · exact (A.out.setCell (Nat.le_succ _) _).setCell (Nat.le_succ _) _
theorem ptv_take (us : List Nat) (on : Nat) {j : Nat} (h : j < us.length) : (ptv us on).take (j + 1) = (ptv us on).take j ++ [sqz (us.getD j 0) on] := by
  rw [List.take_succ_eq_append_getElem (by rw [ptv_length]; exact h)]
  congr 2
  simp [ptv, h]
set_option maxRecDepth 100000 in
theorem impl_squeezeAll (us : List Nat) (on : Nat) (v : Value) (w : World) (h : Sl cI w v (li us)) (hu : ∀ x ∈ us, x < 2 ^ 8) (ho : on < 256) (h6 : us.length = 6) :
    Calls Tryz.prog 34 #[v, .int .i64 (on : Int)] w fun e w' => ∃ A c, e = .returned (.slice A 6 c) ∧ Ow cI 2 w.heap.size w' (.slice A 6 c) (li (ptv us on)) ∧ Below w.heap.size w w' := by
  obtain ⟨A0, c0, rfl⟩ := h.opn
  have HL := Lib.hid (show (li us).length = 6 by rw [li_length, h6])
  rw [HL.out] at h ⊢
  have HX := Lib.hid h
  have HS := Lib.hid (fun j W => impl_squeeze (us.getD j 0) on W (getD_lt hu j) ho)
  have HT := Lib.hid (fun (j : Nat) (hj : j < 6) => ptv_take us on (j := j) (by rw [h6]; exact hj))
  have HT0 := Lib.hid (show (ptv us on).take 6 = ptv us on from List.take_of_length_le (by rw [ptv_length, h6]; exact Nat.le_refl _))
  have HTL := Lib.hid (fun (j : Nat) (hj : j ≤ 6) => show (li ((ptv us on).take j)).length = j by rw [li_length, List.length_take, ptv_length, h6]; omega)
  clear h hu h6
  go_enter Tryz.func34, Tryz.ntmps34
  go_wp2
  go_loopw [5, 10] (fun v i wr => ∃ j : Nat, j ≤ 6 ∧ i = .int .i64 j ∧ Ow cI 2 w.heap.size wr v (li ((ptv us on).take j)) ∧ Below w.heap.size w wr) (fun _ i _ => 6 - (intOf i).toNat)
  case atStart => exact ⟨0, Nat.zero_le _, rfl, Ow.nil _ _, Below.refl _ _⟩
  case round =>
    obtain ⟨j, hj, rfl, hO, hb⟩ := hrel
    obtain ⟨w1, hw1⟩ : ∃ W, W = wr := ⟨_, rfl⟩
    subst hw1
    obtain ⟨A2, c2, rfl⟩ := hO.opn
    have HLx := Lib.hid (HTL.out j hj)
    rw [HLx.out] at hO ⊢
    have O := Lib.hid hO
    have HB := Lib.hid hb
    by_cases hlt : j < 6
    · obtain ⟨b, o, rfl, hbl, hcx⟩ := (HX.out.below hb).atI (k := j) (by rw [HL.out]; exact hlt)
      rw [li_get] at hcx
      have HE := Lib.hid (HT.out j hlt)
      have HSx := Lib.hid (HS.out j)
      have HLI1 : Hid (li ((ptv us on).take (j + 1)) = li ((ptv us on).take j) ++ [((sqz (us.getD j 0) on : Nat) : Int)]) := Lib.hid (by rw [HE.out, li_append]; rfl)
      have i6 : (j : Int) < 6 := by omega
      generalize sqz (us.getD j 0) on = r at *
      generalize us.getD j 0 = m at *
      generalize li ((ptv us on).take j) = L at *
      clear hO hb HE
      go_wp2_with fail
      refine (HSx.out _).mono ?_
      rintro e w3 ⟨rfl, hb⟩
      have O3 := Lib.hid (O.out.below hb)
      have HB3 := Lib.hid (bthen HB.out hb)
      have hz3 := HB3.out.size
      clear hb hcx
      go_wp2_with (at_builtin; refine stopHere ?_)
      refine goHere ?_
      refine ap_one (K := cI) _ ty_int64 rfl _ _ rfl (B := w.heap.size) (v := .slice A2 j c2) (xs := L) rfl O3.out (r : Int) rfl rfl (by have := HLx.out; omega) hz3 ?_
      intro v1 w7 ho1 hg1 hb1 hat1
      have O1 := Lib.hid ho1
      have B1 := Lib.hid (HB3.out.trans hb1)
      clear ho1 hg1 hb1 hat1
      go_wp2
      exact ⟨⟨j + 1, by omega, by go_num, by rw [HLI1.out]; exact O1.out, B1.out⟩, by simp [intOf]; omega⟩
    · obtain rfl : j = 6 := by omega
      rw [HT0.out] at O
      clear hO hb
      go_wp2
      go_ret
      exact ⟨_, _, rfl, O.out, HB.out⟩
set_option maxRecDepth 100000 in
theorem impl_hasElementP (n x : Nat) (v : Value) (w : World) (hx : x < n) (hn : n ≤ 8) (L : List Int) (h : Sl cI w v L) :
    Calls Tryz.prog 32 #[.agg #[.int .i64 (n : Int), v], .int .i64 (x : Int)] w fun e w' => e = .returned (.bool true) ∧ Below w.heap.size w w' := by
  obtain ⟨A0, c0, rfl⟩ := h.opn
  have HR := Lib.hid (fun (W : World) => (show inR (x : Int) 0 ((n : Int) - 1) = true from inR_true (by omega) (by omega)) ▸ impl_inRange (x : Int) 0 ((n : Int) - 1) W)
  have A := Lib.hid (below_alloc' w (.cells #[.int .i64 (n : Int), .slice A0 L.length c0] 26))
  clear h
  go_enter Tryz.func32, Tryz.ntmps32
  go_wp2_with fail
  refine (HR.out _).mono ?_
  rintro e _ ⟨rfl, rfl⟩
  go_wp2
  go_ret
  exact ⟨rfl, A.out⟩
set_option maxHeartbeats 1000000 in
set_option maxRecDepth 100000 in
theorem impl_CutDown_ok (ns us : List Nat) (x : Nat) (v u : Value) (w : World) (h : Sl cI w v (li ns)) (h' : Sl cI w u (li us)) (hm : MdN ns us) (hv : vlOk ns.length (li ns) (li us) = true) (hx : x < ns.length) :
    Calls Tryz.prog 13 #[.agg #[.int .i64 (ns.length : Int), v], u, .int .i64 (x : Int)] w fun e w' => ∃ B1 d1 B2 d2, e = .returned (.tuple #[.agg #[.int .i64 ((ptr ns (ns.getD x 0)).length : Int), .slice B1 (ptr ns (ns.getD x 0)).length d1], .slice B2 6 d2, .int .i64 0]) ∧
      Sl cI w' (.slice B1 (ptr ns (ns.getD x 0)).length d1) (li (ptr ns (ns.getD x 0))) ∧ Sl cI w' (.slice B2 6 d2) (li (ptv us (ns.getD x 0))) ∧ Below w.heap.size w w' := by
  obtain ⟨A0, c0, rfl⟩ := h.opn
  obtain ⟨A1, c1, rfl⟩ := h'.opn
  have h8 := hm.r.1
  have HL := Lib.hid (li_length ns)
  have HU6 := Lib.hid (show (li us).length = 6 by rw [li_length, hm.l])
  rw [HL.out] at h ⊢
  rw [HU6.out] at h' ⊢
  obtain ⟨b, o, rfl, hbw, -⟩ := h.atI (k := x) (by rw [HL.out]; exact hx)
  have A := Lib.hid (Below.refl w.heap.size w)
  have HX := Lib.hid h
  have HV := Lib.hid h'
  have HBW := Lib.hid hbw
  have HP := Lib.hid (fun W (hW : Sl cI W (.slice (some ⟨b, o, none⟩) ns.length c0) (li ns)) (hV : Sl cI W (.slice A1 6 c1) (li us)) => hv ▸ impl_isValuation ns.length _ _ (li ns) (li us) W hW hV (by rw [HL.out]; omega) (by rw [HU6.out]; omega))
  have HE := Lib.hid (fun W (hW : Sl cI W (.slice (some ⟨b, o, none⟩) ns.length c0) (li ns)) => impl_hasElementP ns.length x _ W hx h8 _ hW)
  have hmk := getD_lt hm.r.2 x
  have hm256 := Nat.lt_of_lt_of_le hmk (two_pow_256 h8)
  have HOn := Lib.hid (fun W (hW : Sl cI W (.slice (some ⟨b, o, none⟩) ns.length c0) (li ns)) => impl_on ns (ns.getD x 0) _ W hW hm.r hmk)
  have HSq := Lib.hid (fun W (hW : Sl cI W (.slice A1 6 c1) (li us)) => impl_squeezeAll us (ns.getD x 0) _ W hW (fun y hy => Nat.lt_of_lt_of_le (hm.b y hy) (two_pow_256 h8)) hm256 hm.l)
  have HGx := Lib.hid (fun W (hW : Sl cI W (.slice (some ⟨b, o, none⟩) ns.length c0) (li ns)) => show W.cell? ⟨b, o + x, none⟩ = some (.int .i64 (ns.getD x 0 : Nat)) from by
    obtain ⟨b', o', e, -, hc⟩ := hW.atI (k := x) (by rw [HL.out]; exact hx)
    injection e with e
    injection e with e1 e2
    subst e1; subst e2
    rwa [li_get] at hc)
  clear h h' hm hv hmk
  generalize ptr ns (ns.getD x 0) = P at *
  generalize ptv us (ns.getD x 0) = V at *
  generalize ns.getD x 0 = m at *
  go_enter Tryz.func13, Tryz.ntmps13
  go_upto_region 1 with fail
  have hb := bthen (below_alloc' w (.cells #[.int .i64 ns.length, .slice (some ⟨b, o, none⟩) ns.length c0] 26)) (below_alloc' (World.alloc w (.cells #[.int .i64 ns.length, .slice (some ⟨b, o, none⟩) ns.length c0] 26)) (.cells #[.int .i64 0, .slice none 0 0] 26))
  have T1 : Hid (Blk (World.alloc (World.alloc w (.cells #[.int .i64 ns.length, .slice (some ⟨b, o, none⟩) ns.length c0] 26)) (.cells #[.int .i64 0, .slice none 0 0] 26)) w.heap.size 26 #[.int .i64 ns.length, .slice (some ⟨b, o, none⟩) ns.length c0]) := Lib.hid ((Blk.new w _ _).alloc _)
  have HK : Hid (Blk (World.alloc (World.alloc w (.cells #[.int .i64 ns.length, .slice (some ⟨b, o, none⟩) ns.length c0] 26)) (.cells #[.int .i64 0, .slice none 0 0] 26)) (w.heap.size + 1) 26 #[.int .i64 0, .slice none 0 0]) := Lib.hid (Blk.new' _ 26 #[.int .i64 0, .slice none 0 0] (by simp))
  replace HX := Lib.hid (HX.out.below hb)
  replace HV := Lib.hid (HV.out.below hb)
  replace A := Lib.hid (bthen A.out hb)
  clear hb hbw
  generalize World.alloc (World.alloc w _) _ = w1 at *
  have T1s := T1.out.lt
  have T1c := T1.out.cell
  go_wp2_with fail
  clear T1s T1c
  refine (HP.out _ HX.out HV.out).mono ?_
  rintro e w2 ⟨rfl, hb⟩
  replace HX := Lib.hid (HX.out.below hb)
  replace HV := Lib.hid (HV.out.below hb)
  replace T1 := Lib.hid (T1.out.below hb T1.out.lt)
  replace HK := Lib.hid (HK.out.below hb HK.out.lt)
  replace A := Lib.hid (bthen A.out hb)
  clear hb
  have T1s := T1.out.lt
  have T1c := T1.out.cell
  go_wp2_with fail
  clear T1s T1c
  refine (HE.out _ HX.out).mono ?_
  rintro e w3 ⟨rfl, hb⟩
  replace HX := Lib.hid (HX.out.below hb)
  replace HV := Lib.hid (HV.out.below hb)
  replace T1 := Lib.hid (T1.out.below hb T1.out.lt)
  replace HK := Lib.hid (HK.out.below hb HK.out.lt)
  replace A := Lib.hid (bthen A.out hb)
  clear hb
  go_upto_region 5 with fail
  have hd := (Below.refl w3.heap.size w3).drew
  replace HX := Lib.hid (HX.out.below hd)
  replace HV := Lib.hid (HV.out.below hd)
  replace T1 := Lib.hid (T1.out.below hd T1.out.lt)
  replace HK := Lib.hid (HK.out.below hd HK.out.lt)
  replace A := Lib.hid (bthen A.out hd)
  clear hd
  have hI : (fun X : World => X.cell? ⟨w.heap.size, 0, none⟩ = some (.int .i64 (ns.length : Int)) ∧ X.cell? ⟨w.heap.size, 1, none⟩ = some (.slice (some ⟨b, o, none⟩) ns.length c0) ∧ X.cell? ⟨b, o + x, none⟩ = some (.int .i64 (m : Int))) (World.drew w3) := ⟨T1.out.cell 0, T1.out.cell 1, HGx.out _ HX.out⟩
  refine wp_region_sched (fun X : World => X.cell? ⟨w.heap.size, 0, none⟩ = some (.int .i64 (ns.length : Int)) ∧ X.cell? ⟨w.heap.size, 1, none⟩ = some (.slice (some ⟨b, o, none⟩) ns.length c0) ∧ X.cell? ⟨b, o + x, none⟩ = some (.int .i64 (m : Int))) 15 [0, 1, 2, 3, 4, 5, 7, 8, 9, 10, 11, 12] [0, 1, 2, 3, 4, 5, 7, 8, 9, 10, 11, 12, 6, 13, 14] (by kernel_rfl) (by kernel_rfl) hI ?_
  generalize World.drew w3 = w4 at *
  repeat
    apply wpSched_q rfl rfl
    case h =>
      intro w' hI K hK
      have cc0 : w'.cell? ⟨w.heap.size, 0, none⟩ = some (.int .i64 (ns.length : Int)) := hI.1
      have cc1 : w'.cell? ⟨w.heap.size, 1, none⟩ = some (.slice (some ⟨b, o, none⟩) ns.length c0) := hI.2.1
      have cc2 : w'.cell? ⟨b, o + x, none⟩ = some (.int .i64 (m : Int)) := hI.2.2
      simp only [quietV, stillV]
      go_simp
      exact hK
    go_simp
  refine wpSched_r rfl rfl ?_ hI
  intro K hK _
  go_simp
  refine (HOn.out _ HX.out).mono ?_
  rintro e w5 ⟨A5, c5, rfl, hO5, hb⟩
  replace HX := Lib.hid (HX.out.below hb)
  replace HV := Lib.hid (HV.out.below hb)
  replace T1 := Lib.hid (T1.out.below hb T1.out.lt)
  have Z4 : Hid (w.heap.size + 1 < w4.heap.size) := Lib.hid HK.out.lt
  replace HK := Lib.hid (HK.out.below hb HK.out.lt)
  replace A := Lib.hid (bthen A.out hb)
  have Z5 : Hid (w4.heap.size ≤ w5.heap.size) := Lib.hid hb.size
  have O5 := Lib.hid hO5
  clear hI hb hO5
  have hI : (fun X : World => X.cell? ⟨w.heap.size, 0, none⟩ = some (.int .i64 (ns.length : Int)) ∧ X.cell? ⟨w.heap.size, 1, none⟩ = some (.slice (some ⟨b, o, none⟩) ns.length c0) ∧ X.cell? ⟨b, o + x, none⟩ = some (.int .i64 (m : Int))) w5 := ⟨T1.out.cell 0, T1.out.cell 1, HGx.out _ HX.out⟩
  refine hK _ _ hI ?_
  clear hK K
  refine wpSched_r rfl rfl ?_ hI
  intro K hK _
  go_simp
  refine (HSq.out _ HV.out).mono ?_
  rintro e w6 ⟨A6, c6, rfl, hO6, hb⟩
  replace HX := Lib.hid (HX.out.below hb)
  replace T1 := Lib.hid (T1.out.below hb T1.out.lt)
  replace HK := Lib.hid (HK.out.below hb HK.out.lt)
  replace A := Lib.hid (bthen A.out hb)
  replace O5 := Lib.hid (O5.out.below hb)
  have O6 := Lib.hid hO6
  clear hI hb hO6
  have hI : (fun X : World => X.cell? ⟨w.heap.size, 0, none⟩ = some (.int .i64 (ns.length : Int)) ∧ X.cell? ⟨w.heap.size, 1, none⟩ = some (.slice (some ⟨b, o, none⟩) ns.length c0) ∧ X.cell? ⟨b, o + x, none⟩ = some (.int .i64 (m : Int))) w6 := ⟨T1.out.cell 0, T1.out.cell 1, HGx.out _ HX.out⟩
  refine hK _ _ hI ?_
  clear hK K
  refine wpSched_r rfl rfl ?_ hI
  intro K hK _
  go_simp
  have kr := HK.out.cell
  have fr := HK.out.frozen
  have lr := HK.out.lt
  simp [kr, fr, lr, go_sem]
  have HR := Lib.hid ((HK.out.set_ 0 (.int .i64 (P.length : Int))).set_ 1 (.slice A5 P.length c5))
  have nb : b ≠ w.heap.size + 1 := by have := HBW.out; omega
  have nw : w.heap.size ≠ w.heap.size + 1 := by omega
  have TT := (T1.out.far (p := ⟨w.heap.size + 1, 0, none⟩) nw (.int .i64 (P.length : Int))).far (p := ⟨w.heap.size + 1, 1, none⟩) nw (.slice A5 P.length c5)
  have hcb : (World.setCell (World.setCell w6 ⟨w.heap.size + 1, 0, none⟩ (.int .i64 (P.length : Int))) ⟨w.heap.size + 1, 1, none⟩ (.slice A5 P.length c5)).cell? ⟨b, o + x, none⟩ = some (.int .i64 (m : Int)) := by
    have := (((Below.refl (w.heap.size + 1) w6).setCell (p := ⟨w.heap.size + 1, 0, none⟩) (Nat.le_refl _) (.int .i64 (P.length : Int))).setCell (p := ⟨w.heap.size + 1, 1, none⟩) (Nat.le_refl _) (.slice A5 P.length c5)).cell (p := ⟨b, o + x, none⟩) (by show b < _; have := HBW.out; omega)
    exact this.trans (HGx.out _ HX.out)
  have hI2 : (fun X : World => X.cell? ⟨w.heap.size, 0, none⟩ = some (.int .i64 (ns.length : Int)) ∧ X.cell? ⟨w.heap.size, 1, none⟩ = some (.slice (some ⟨b, o, none⟩) ns.length c0) ∧ X.cell? ⟨b, o + x, none⟩ = some (.int .i64 (m : Int))) (World.setCell (World.setCell w6 ⟨w.heap.size + 1, 0, none⟩ (.int .i64 (P.length : Int))) ⟨w.heap.size + 1, 1, none⟩ (.slice A5 P.length c5)) := ⟨TT.cell 0, TT.cell 1, hcb⟩
  refine hK _ _ hI2 ?_
  clear hK K kr fr lr hI
  refine wpSched_nil ?_
  try simp only [List.drop_succ_cons, List.drop_zero, List.drop_nil]
  clear hI2 nb nw TT hcb
  have rc := HR.out.cell
  have rf := HR.out.frozen
  have rl := HR.out.lt
  have z4 := Z4.out
  have z5 : w.heap.size + 1 < w5.heap.size := Nat.lt_of_lt_of_le Z4.out Z5.out
  go_wp2
  refine bodyPost_ret (v := .tuple #[.agg #[.int .i64 (P.length : Int), .slice A5 P.length c5], .slice A6 6 c6, .int .i64 0]) (by simp [results, Tryz.results13, go_sem, rc, rf, rl]) rfl ⟨_, _, _, _, rfl, ?_, ?_, ?_⟩
  · exact ((O5.out.setBelow z4 _).setBelow z4 _).sl
  · exact ((O6.out.setBelow z5 _).setBelow z5 _).sl
  · exact (A.out.setCell (Nat.le_succ _) _).setCell (Nat.le_succ _) _
end Go.Proofs.YtomojninngdbeaaGreat

/- The plain law of FnFiltrationsBetween: the least filtration lies within the greatest one, and the lists between them are filtrations, as many as their number tells. -/
import Derived.Test.YtnolbgdbboiehaaGreatDoorAL
import Derived.Test.YtnolbgdbboiehaaGreatDoorEE
import Derived.Test.YtnolbgdbboiehaaGreatDoorM14t
import Derived.Test.YtnolbgdbboiehaaGreatDoorAY
import Derived.Test.YtnolbgdbboiehaaGreatDoorAF
namespace Go.Proofs.YtnolbgdbboiehaaGreatDoor
open Go.RowKit
set_option linter.unusedVariables false
set_option linter.unusedSimpArgs false
theorem mds_box (ns us : List Nat) (f : Fm) (k : Nat) : ∀ e ∈ mds ns us f k, (e.1 = true ∧ e.2.1 = bx ns e.2.2) ∨ (e.1 = false ∧ e.2.1 = andnot (2 ^ ns.length - 1) (bx ns (andnot (2 ^ ns.length - 1) e.2.2))) := by
  induction k with
  | zero => intro e he; cases he
  | succ k ih =>
    intro e he
    rw [mds, List.mem_append] at he
    rcases he with he | he
    · exact ih e he
    · split at he
      · rename_i a ha
        rw [List.mem_singleton] at he
        subst he
        left
        exact ⟨rfl, by rw [ha]; rfl⟩
      · rename_i a ha
        rw [List.mem_singleton] at he
        subst he
        right
        exact ⟨rfl, by rw [ha]; rfl⟩
      · cases he
/-- an arrow is allowed -/
theorem may_arrow (ns us : List Nat) (f : Fm) (k w v : Nat) (hw : w < ns.length) (h : (ns.getD w 0).testBit v = true) : may (mds ns us f k) false w v = true := by
  unfold may
  rw [List.all_eq_true]
  intro e he
  rcases mds_box ns us f k e he with ⟨h1, h2⟩ | ⟨h1, h2⟩
  · rw [h1, h2]
    unfold bx
    rw [msk_testBit, decide_eq_true hw]
    cases hd : decide (andnot (ns.getD w 0) e.2.2 = 0)
    · rfl
    · have hd := congrArg (fun n => n.testBit v) (of_decide_eq_true hd)
      simp only [andnot_testBit, h, Nat.zero_testBit, Bool.true_and] at hd
      simp only [hd, Bool.false_and, Bool.or_false, Bool.and_false, Bool.not_false]
      simp
  · rw [h1, h2]
    unfold bx
    rw [andnot_testBit, msk_testBit, decide_eq_true hw, Nat.testBit_two_pow_sub_one, decide_eq_true hw]
    cases hm : e.2.2.testBit v
    · simp
    · cases hd : decide (andnot (ns.getD w 0) (andnot (2 ^ ns.length - 1) e.2.2) = 0)
      · simp
      · have hd := congrArg (fun n => n.testBit v) (of_decide_eq_true hd)
        simp only [andnot_testBit, h, Nat.zero_testBit, Bool.true_and, hm] at hd
        simp at hd
/-- the least filtration lies within the greatest -/
theorem lst_gre_bit (ns us : List Nat) (f : Fm) (i j : Nat) (h : ((lst ns us f).getD i 0).testBit j = true) : ((gre ns us f).getD i 0).testBit j = true := by
  have hlt : ∀ w, w < ns.length → (acl ns us f).getD w 0 < acn ns us f := fun w hw => acl_lt ns us f _ (by
    rw [List.getD_eq_getElem?_getD, List.getElem?_eq_getElem (by rw [acl_length]; exact hw)]
    exact List.getElem_mem _)
  unfold lst at h
  unfold gre frm
  rw [qrl_bit _ _ _ hlt] at h ⊢
  obtain ⟨w, hw, hi, hb⟩ := h
  refine ⟨w, hw, hi, ?_⟩
  rw [img_pw_bit] at hb ⊢
  obtain ⟨v, hv, hm, hj⟩ := hb
  refine ⟨v, hv, ?_, hj⟩
  rw [acl_length] at hv
  rw [lnk_getD _ hw, msk_testBit, decide_eq_true hv, Bool.true_and, alw_may]
  exact may_arrow ns us f _ w v hw hm
theorem lst_gre (ns us : List Nat) (f : Fm) (i : Nat) : andnot ((lst ns us f).getD i 0) ((gre ns us f).getD i 0) = 0 := by
  apply Nat.eq_of_testBit_eq
  intro j
  rw [andnot_testBit, Nat.zero_testBit]
  cases h : ((lst ns us f).getD i 0).testBit j
  · rfl
  · rw [lst_gre_bit ns us f i j h]; rfl
theorem cds_mem (lo hi : List Nat) (i : Nat) : ∀ c ∈ cds lo hi i, ∀ x, x < i → ∃ s ∈ sbs (andnot (hi.getD x 0) (lo.getD x 0)), c.getD x 0 = lo.getD x 0 ||| s := by
  induction i with
  | zero => intro c hc x hx; omega
  | succ i ih =>
    intro c hc x hx
    rw [cds, List.mem_flatMap] at hc
    obtain ⟨d, hd, hc⟩ := hc
    obtain ⟨s, hs, rfl⟩ := List.mem_map.1 hc
    have hl := cds_len _ _ _ d hd
    rcases Nat.lt_or_ge x i with h | h
    · obtain ⟨s', h1, h2⟩ := ih d hd x h
      exact ⟨s', h1, by rw [List.getD_eq_getElem?_getD, List.getElem?_append_left (by omega), ← List.getD_eq_getElem?_getD, h2]⟩
    · obtain rfl : x = i := by omega
      exact ⟨s, hs, by rw [List.getD_eq_getElem?_getD, List.getElem?_append_right (by omega)]; simp [hl]⟩
theorem cds_isf (ns us : List Nat) (f : Fm) (h1 : MdN ns us) : ∀ c ∈ cds (lst ns us f) (gre ns us f) (acn ns us f), isf ns us f c = true := by
  intro c hc
  have hn8 : acn ns us f ≤ 8 := Nat.le_trans (acn_le ns us f) h1.r.1
  unfold isf fbw
  rw [cds_len _ _ _ c hc, decide_eq_true rfl, Bool.true_and, List.all_eq_true]
  intro x hx
  obtain ⟨s, hs, e⟩ := cds_mem _ _ _ c hc x (List.mem_range.1 hx)
  have hlg := lst_gre ns us f x
  have hz : andnot ((gre ns us f).getD x 0) ((lst ns us f).getD x 0) < 256 := andnot_lt (k := 8) (Nat.lt_of_lt_of_le (getD_lt (gre_lt ns us f) x) (two_pow_256 hn8))
  have e2 := eq_of_beq (List.all_eq_true.1 (sbs_within _ hz) s hs)
  rw [e, Bool.and_eq_true, decide_eq_true_eq, decide_eq_true_eq]
  generalize (lst ns us f).getD x 0 = a at *
  generalize (gre ns us f).getD x 0 = b at *
  constructor
  · apply Nat.eq_of_testBit_eq
    intro j
    rw [andnot_testBit, Nat.testBit_or, Nat.zero_testBit]
    cases a.testBit j <;> rfl
  · apply Nat.eq_of_testBit_eq
    intro j
    have p1 := congrArg (fun n => n.testBit j) hlg
    have p2 := congrArg (fun n => n.testBit j) e2
    simp only [andnot_testBit, Nat.testBit_and, Nat.zero_testBit] at p1 p2
    rw [andnot_testBit, Nat.testBit_or, Nat.zero_testBit]
    revert p1 p2
    cases a.testBit j <;> cases b.testBit j <;> cases s.testBit j <;> simp
theorem cds_lt' (lo hi : List Nat) (n : Nat) (hlo : ∀ i, lo.getD i 0 < 2 ^ n) (hhi : ∀ i, hi.getD i 0 < 2 ^ n) (h256 : ∀ i, hi.getD i 0 < 256) (i : Nat) : ∀ c ∈ cds lo hi i, ∀ a ∈ c, a < 2 ^ n := by
  induction i with
  | zero => intro c hc; simp [cds] at hc; simp [hc]
  | succ i ih =>
    intro c hc
    rw [cds, List.mem_flatMap] at hc
    obtain ⟨d, hd, hc⟩ := hc
    obtain ⟨s, hs, rfl⟩ := List.mem_map.1 hc
    intro a ha
    rcases List.mem_append.1 ha with ha | ha
    · exact ih d hd a ha
    · rw [List.mem_singleton] at ha
      subst ha
      have hz : andnot (hi.getD i 0) (lo.getD i 0) < 256 := andnot_lt (k := 8) (h256 i)
      have e := eq_of_beq (List.all_eq_true.1 (sbs_within _ hz) s hs)
      refine Nat.or_lt_two_pow (hlo i) ?_
      rw [← e]
      exact Nat.lt_of_le_of_lt Nat.and_le_right (andnot_lt (hhi i))
theorem cds_rel' (ns us : List Nat) (f : Fm) (h1 : MdN ns us) : ∀ c ∈ cds (lst ns us f) (gre ns us f) (acn ns us f), c.length = acn ns us f ∧ RelN c := by
  intro c hc
  have hn8 : acn ns us f ≤ 8 := Nat.le_trans (acn_le ns us f) h1.r.1
  have hl := cds_len _ _ _ c hc
  refine ⟨hl, by rw [hl]; exact hn8, fun a ha => ?_⟩
  rw [hl]
  exact cds_lt' _ _ _ (fun i => getD_lt (lst_lt ns us f) i) (fun i => getD_lt (gre_lt ns us f) i) (fun i => Nat.lt_of_lt_of_le (getD_lt (gre_lt ns us f) i) (two_pow_256 hn8)) _ c hc a ha
theorem relN_ok {gs : List Nat} (h : RelN gs) : frOk gs.length (li gs) = true := by
  have h1 := h.1
  unfold frOk
  rw [inR_true (by omega) (by omega), Bool.true_and, li_length, decide_eq_true rfl, Bool.true_and]
  unfold relOk
  rw [List.all_eq_true]
  intro m hm
  unfold li at hm
  obtain ⟨a, ha, rfl⟩ := List.mem_map.1 hm
  rw [li_length, mkOk_small (by omega)]
  have := h.2 a ha
  refine inR_true (by omega) ?_
  rw [Int.toNat_natCast, full_cast (by omega)]
  omega
/-- as many as their number tells -/
theorem fsl_count (ns us : List Nat) (f : Fm) (h1 : MdN ns us) (h : chc ns us f ≤ 7) : ((fsl (lst ns us f) (gre ns us f) (acn ns us f)).length : Int) = cfN (chc ns us f) := by
  have hn8 : acn ns us f ≤ 8 := Nat.le_trans (acn_le ns us f) h1.r.1
  unfold fsl
  rw [List.length_map, cds_length _ _ (fun i => Nat.lt_of_lt_of_le (getD_lt (gre_lt ns us f) i) (two_pow_256 hn8))]
  unfold cfN
  rw [if_neg (by omega)]
  show ((2 ^ chc ns us f : Nat) : Int) = _
  simp
theorem fsl_len (ns us : List Nat) (f : Fm) (h1 : MdN ns us) (h : chc ns us f ≤ 7) : (fsl (lst ns us f) (gre ns us f) (acn ns us f)).length ≤ 128 := by
  have hn8 : acn ns us f ≤ 8 := Nat.le_trans (acn_le ns us f) h1.r.1
  unfold fsl
  rw [List.length_map, cds_length _ _ (fun i => Nat.lt_of_lt_of_le (getD_lt (gre_lt ns us f) i) (two_pow_256 hn8))]
  exact Nat.pow_le_pow_right (by decide) h
/-- what AllFiltrations and CountFiltrations say, a case at a time -/
theorem afl_cases (ns us : List Nat) (f : Fm) (h1 : MdN ns us) : ∃ (FS : List (Int × List Int)) (kA cN cC : Int), afL ns us f = FS ∧ afC ns us f = kA ∧ cfN (chc ns us f) = cN ∧ cfC (chc ns us f) = cC ∧ FS.length ≤ 128 ∧
    (∀ i (h : i < FS.length), ∃ c : List Nat, FS[i] = (((acn ns us f : Nat) : Int), li c) ∧ c.length = acn ns us f ∧ RelN c ∧ isf ns us f c = true) ∧ ((kA = 0 ∧ cN = (FS.length : Int)) ∨ (kA = 3 ∧ FS = [])) := by
  by_cases h : chc ns us f ≤ 7
  · refine ⟨_, 0, _, _, if_pos h, if_pos h, rfl, rfl, fsl_len ns us f h1 h, fun i hi => ?_, .inl ⟨rfl, (fsl_count ns us f h1 h).symm⟩⟩
    have hi' : i < (cds (lst ns us f) (gre ns us f) (acn ns us f)).length := by unfold fsl at hi; rwa [List.length_map] at hi
    refine ⟨(cds (lst ns us f) (gre ns us f) (acn ns us f))[i], by simp only [fsl, List.getElem_map], ?_, ?_, ?_⟩
    · exact (cds_rel' ns us f h1 _ (List.getElem_mem hi')).1
    · exact (cds_rel' ns us f h1 _ (List.getElem_mem hi')).2
    · exact cds_isf ns us f h1 _ (List.getElem_mem hi')
  · exact ⟨[], 3, _, _, if_neg h, if_neg h, rfl, rfl, by simp, fun i hi => by simp at hi, .inr ⟨rfl, rfl⟩⟩
end Go.Proofs.YtnolbgdbboiehaaGreatDoor

/- Plain law of chapter 14: the transitive and the symmetric filtration, the number of filtrations, the values of a filtration's model. No program in sight. -/
import Derived.Test.YtnolbgdbboiehaaGreatDoorAT
namespace Go.Proofs.YtnolbgdbboiehaaGreatDoor
open Go.RowKit
set_option linter.unusedVariables false
set_option linter.unusedSimpArgs false
/-- the transitive and the symmetric filtration -/
def tfl (ns us : List Nat) (f : Fm) : List Nat := lnk (acn ns us f) (acn ns us f) (gp (may (mds ns us f (enc f).length) true) false (afw ns us f))
def sfl (ns us : List Nat) (f : Fm) : List Nat := lnk (acn ns us f) (acn ns us f) (gp (may (mds ns us f (enc f).length) false) true (afw ns us f))
theorem frm_tfl (ns us : List Nat) (f : Fm) : frm ns us f (fun w v => alw (mds ns us f (enc f).length) w v && kps (mds ns us f (enc f).length) w v) = tfl ns us f := by
  rw [show (fun w v => alw (mds ns us f (enc f).length) w v && kps (mds ns us f (enc f).length) w v) = may (mds ns us f (enc f).length) true from funext fun w => funext fun v => alw_kps_may _ w v]
  rw [frm_grt ns us f _ fun w w' v v' h1 h2 => may_key ns us f true h1 h2]
  unfold grt tfl
  refine lnk_congr fun x _ y _ => ?_
  simp [gp]
theorem frm_sfl (ns us : List Nat) (f : Fm) : frm ns us f (fun w v => alw (mds ns us f (enc f).length) w v && alw (mds ns us f (enc f).length) v w) = sfl ns us f := by
  rw [show (fun w v => alw (mds ns us f (enc f).length) w v && alw (mds ns us f (enc f).length) v w) = fun w v => may (mds ns us f (enc f).length) false w v && may (mds ns us f (enc f).length) false v w from funext fun w => funext fun v => by rw [alw_may, alw_may]]
  rw [frm_grt ns us f _ fun w w' v v' h1 h2 => by rw [may_key ns us f false h1 h2, may_key ns us f false h2 h1]]
  unfold grt sfl
  refine lnk_congr fun x _ y _ => ?_
  simp [gp]
theorem tfl_length (ns us : List Nat) (f : Fm) : (tfl ns us f).length = acn ns us f := lnk_length _ _ _
theorem sfl_length (ns us : List Nat) (f : Fm) : (sfl ns us f).length = acn ns us f := lnk_length _ _ _
/-- how many members a mask has -/
def pcTo (m : Nat) : Nat → Nat
  | 0 => 0
  | k + 1 => pcTo m k + if m.testBit k then 1 else 0
def pc (m : Nat) : Nat := pcTo m 8
theorem pcTo_le (m k : Nat) : pcTo m k ≤ k := by
  induction k with
  | zero => exact Nat.le_refl _
  | succ k ih => rw [pcTo]; split <;> omega
theorem pcTo_end {m k j : Nat} (h : m / 2 ^ j = 0) (hj : j ≤ k) : pcTo m k = pcTo m j := by
  induction k with
  | zero => obtain rfl : j = 0 := by omega
            rfl
  | succ k ih =>
    by_cases hk : j = k + 1
    · rw [hk]
    · rw [pcTo, testBit_out h (show j ≤ k by omega), ih (by omega)]; rfl
/-- how many arrows a filtration may have or not -/
def chTo (lo hi : List Nat) : Nat → Nat
  | 0 => 0
  | k + 1 => chTo lo hi k + pc (andnot (hi.getD k 0) (lo.getD k 0))
theorem chTo_le (lo hi : List Nat) (k : Nat) : chTo lo hi k ≤ 8 * k := by
  induction k with
  | zero => exact Nat.le_refl _
  | succ k ih => have := pcTo_le (andnot (hi.getD k 0) (lo.getD k 0)) 8; rw [chTo, pc]; omega
def chc (ns us : List Nat) (f : Fm) : Nat := chTo (lst ns us f) (gre ns us f) (acn ns us f)
theorem chc_le (ns us : List Nat) (f : Fm) (h : ns.length ≤ 8) : chc ns us f ≤ 64 := by
  have h1 := chTo_le (lst ns us f) (gre ns us f) (acn ns us f)
  have h2 := acn_le ns us f
  unfold chc; omega
/-- the number of filtrations, and the error -/
def cfN (k : Nat) : Int := if 30 < k then 0 else (2 : Int) ^ k
def cfC (k : Nat) : Int := if 30 < k then 3 else 0
/-- values that are put at the places of a list -/
def vset (vs : List Int) (g : Nat → Nat) : Nat → List Nat
  | 0 => List.replicate 6 0
  | j + 1 => (vset vs g j).set (vs.getD j 0).toNat (g (vs.getD j 0).toNat)
theorem vset_length (vs : List Int) (g : Nat → Nat) (j : Nat) : (vset vs g j).length = 6 := by
  induction j with
  | zero => rfl
  | succ j ih => rw [vset, List.length_set, ih]
theorem vset_congr {vs : List Int} {g h : Nat → Nat} (e : ∀ x ∈ vs, g x.toNat = h x.toNat) (j : Nat) (hj : j ≤ vs.length) : vset vs g j = vset vs h j := by
  induction j with
  | zero => rfl
  | succ j ih =>
    rw [vset, vset, ih (by omega), e _ (by rw [List.getD_eq_getElem?_getD, List.getElem?_eq_getElem (show j < vs.length by omega)]; exact List.getElem_mem _)]
theorem vset_no {vs : List Int} {g : Nat → Nat} {p : Nat} (j : Nat) (h : ∀ i, i < j → ¬ (vs.getD i 0).toNat = p) : (vset vs g j).getD p 0 = 0 := by
  induction j with
  | zero =>
    rw [vset, List.getD_eq_getElem?_getD, List.getElem?_replicate]
    split <;> rfl
  | succ j ih =>
    rw [vset, getD_set, if_neg (fun hh => h j (by omega) hh.1)]
    exact ih fun i hi => h i (by omega)
theorem vset_lt {vs : List Int} {g : Nat → Nat} {N : Nat} (hg : ∀ v, g v < 2 ^ N) (j : Nat) : ∀ x ∈ vset vs g j, x < 2 ^ N := by
  induction j with
  | zero => intro x hx; have := List.eq_of_mem_replicate (show x ∈ List.replicate 6 0 from hx); rw [this]; exact Nat.pow_pos (by decide)
  | succ j ih => exact set_lt ih _ _ (hg _)
theorem mems_ne {m i j : Nat} (hij : i < j) (hj : j < (mems m).length) : ¬ ((mems m).getD i 0).toNat = ((mems m).getD j 0).toNat := by
  have hnd : (mems m).Nodup := by
    unfold mems memsTo
    rw [List.nodup_iff_pairwise_ne, List.pairwise_map]
    exact ((List.pairwise_lt_range (n := 64)).filter _).imp fun h e => by omega
  have hi : i < (mems m).length := by omega
  rw [List.getD_eq_getElem?_getD, List.getD_eq_getElem?_getD, List.getElem?_eq_getElem hi, List.getElem?_eq_getElem hj]
  simp only [Option.getD_some]
  obtain ⟨a, -, -, ea⟩ := mems_iff.1 (List.getElem_mem hi)
  obtain ⟨b, -, -, eb⟩ := mems_iff.1 (List.getElem_mem hj)
  intro e
  rw [ea, eb] at e
  have : (mems m)[i] = (mems m)[j] := by rw [ea, eb]; omega
  have := (List.getElem?_inj hi hnd).1 (show (mems m)[i]? = (mems m)[j]? by rw [List.getElem?_eq_getElem hi, List.getElem?_eq_getElem hj]; exact congrArg some this)
  omega
theorem vmask_bit' (xs : List Nd) (n : Nat) : (vmask xs).testBit n = xs.any fun x => x.1 == 0 && x.2.toNat == n := by
  have key : ∀ (xs : List Nd) (m : Nat), (xs.foldl (fun m n => if n.1 = 0 then m ||| 2 ^ n.2.toNat else m) m).testBit n = (m.testBit n || xs.any fun x => x.1 == 0 && x.2.toNat == n) := by
    intro xs
    induction xs with
    | nil => intro m; simp
    | cons x t ih =>
      intro m
      rw [List.foldl_cons, ih, List.any_cons]
      by_cases hx : x.1 = 0
      · rw [if_pos hx, Nat.testBit_or, Nat.testBit_two_pow]
        have e1 : (x.1 == 0) = true := by simp [hx]
        rw [e1, Bool.true_and, Bool.or_assoc]
        congr 2
      · rw [if_neg hx]
        have e1 : (x.1 == 0) = false := by simp [hx]
        rw [e1, Bool.false_and, Bool.false_or]
  have := key xs 0
  simpa [vmask] using this
/-- a variable that occurs is a part -/
theorem var_part {f : Fm} {v : Nat} (h : (vmask (enc f)).testBit v = true) : ∃ i, i < (enc f).length ∧ pt f i = .var v := by
  rw [vmask_bit', List.any_eq_true] at h
  obtain ⟨x, hx, hv⟩ := h
  obtain ⟨i, hi, rfl⟩ := List.getElem_of_mem hx
  refine ⟨i, hi, ?_⟩
  obtain ⟨g, rest, h1, -, h3⟩ := dc_at f i hi
  have e : pt f i = g := by unfold pt; rw [h1]; rfl
  rw [e]
  simp only [Bool.and_eq_true, beq_iff_eq] at hv
  cases g with
  | var s => simp only at h3; rw [h3] at hv; simp at hv; rw [hv]
  | fls => simp only at h3; rw [h3] at hv; simp at hv
  | bin k a b => simp only at h3; rw [h3] at hv; cases k <;> simp [BK.i] at hv
  | un k a => simp only at h3; rw [h3] at hv; cases k <;> simp [UK.i] at hv
/-- a mask whose members are alike, told by the classes and by the least worlds -/
theorem img_first (ns us : List Nat) (f : Fm) (m : Nat) (hm : m < 2 ^ ns.length) (h : ∀ w v, ky ns us f (enc f).length w = ky ns us f (enc f).length v → m.testBit w = m.testBit v) :
    img (pw (acl ns us f)) m = msk (fun k => m.testBit ((afw ns us f).getD k 0)) (acn ns us f) := by
  obtain ⟨hA, hB, -⟩ := dvd_fw (ky ns us f (enc f).length) ns.length
  apply Nat.eq_of_testBit_eq
  intro j
  rw [Bool.eq_iff_iff, img_pw_bit, msk_testBit, Bool.and_eq_true, decide_eq_true_eq]
  constructor
  · rintro ⟨v, hv, hb, hc⟩
    rw [acl_length] at hv
    obtain ⟨h1, h2⟩ := hA v hv
    have h1' : (acl ns us f).getD v 0 < acn ns us f := h1
    rw [hc] at h1'
    refine ⟨h1', ?_⟩
    have h2' : ky ns us f (enc f).length ((afw ns us f).getD ((acl ns us f).getD v 0) 0) = ky ns us f (enc f).length v := h2
    rw [hc] at h2'
    rw [h _ _ h2']; exact hb
  · rintro ⟨hj, hb⟩
    obtain ⟨h1, h2⟩ := hB j hj
    exact ⟨_, by rw [acl_length]; exact h1, hb, h2⟩
theorem img_var (ns us : List Nat) (f : Fm) {v : Nat} (hu : ∀ x ∈ us, x < 2 ^ ns.length) (h : (vmask (enc f)).testBit v = true) :
    img (pw (acl ns us f)) (us.getD v 0) = msk (fun k => (us.getD v 0).testBit ((afw ns us f).getD k 0)) (acn ns us f) := by
  obtain ⟨i, hi, hp⟩ := var_part h
  refine img_first ns us f _ (getD_lt hu v) fun w w' hk => ?_
  have := (ky_iff ns us f _ w w').1 hk i hi
  unfold tb at this
  rw [hp] at this
  exact this
/-- the values of a filtration's model -/
def fmI (ns us : List Nat) (f : Fm) (v : Nat) : Nat := img (pw (acl ns us f)) (us.getD v 0)
def fmS (ns us : List Nat) (f : Fm) (v : Nat) : Nat := msk (fun k => (us.getD v 0).testBit ((afw ns us f).getD k 0)) (acn ns us f)
def fmv (ns us : List Nat) (f : Fm) : List Nat := vset (mems (vmask (enc f))) (fmS ns us f) (mems (vmask (enc f))).length
theorem fmv_I (ns us : List Nat) (f : Fm) (hu : ∀ x ∈ us, x < 2 ^ ns.length) : vset (mems (vmask (enc f))) (fmI ns us f) (mems (vmask (enc f))).length = fmv ns us f := by
  refine vset_congr (fun x hx => ?_) _ (Nat.le_refl _)
  obtain ⟨i, -, hi, rfl⟩ := mems_iff.1 hx
  exact img_var ns us f hu (by simpa using hi)
end Go.Proofs.YtnolbgdbboiehaaGreatDoor

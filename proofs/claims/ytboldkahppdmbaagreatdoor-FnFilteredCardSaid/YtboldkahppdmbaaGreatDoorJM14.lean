/- Joined of several texts: M14t, M14X. -/
import Derived.Test.YtboldkahppdmbaaGreatDoorAT
import Derived.Test.YtboldkahppdmbaaGreatDoorAY
import Derived.Test.YtboldkahppdmbaaGreatDoorEE
namespace Go.Proofs.YtboldkahppdmbaaGreatDoor
open Go.RowKit
set_option linter.unusedVariables false
set_option linter.unusedSimpArgs false
/- Plain law of chapter 14: the transitive and the symmetric filtration, the number of filtrations, the values of a filtration's model. No program in sight. -/
/-- the transitive and the symmetric filtration -/
def tfl (ns us : List Nat) (f : Fm) : List Nat := lnk (acn ns us f) (acn ns us f) (gp (may (mds ns us f (enc f).length) true) false (afw ns us f))
def sfl (ns us : List Nat) (f : Fm) : List Nat := lnk (acn ns us f) (acn ns us f) (gp (may (mds ns us f (enc f).length) false) true (afw ns us f))
theorem frm_tfl (ns us : List Nat) (f : Fm) : frm ns us f (fun w v => alw (mds ns us f (enc f).length) w v && kps (mds ns us f (enc f).length) w v) = tfl ns us f := by
  rw [show (fun w v => alw (mds ns us f (enc f).length) w v && kps (mds ns us f (enc f).length) w v) = may (mds ns us f (enc f).length) true from funext fun w => funext fun v => alw_kps_may _ w v]
  rw [frm_grt ns us f _ fun w w' v v' h1 h2 => may_key ns us f true h1 h2]
  unfold grt tfl
  refine lnk_congr fun x _ y _ => ?_
  simp [gp]
theorem frm_sfl (ns us : List Nat) (f : Fm) : frm ns us f (fun w v => alw (mds ns us f (enc f).length) w v && alw (mds ns us f (enc f).length) v w) = sfl ns us f := by
  rw [show (fun w v => alw (mds ns us f (enc f).length) w v && alw (mds ns us f (enc f).length) v w) = fun w v => may (mds ns us f (enc f).length) false w v && may (mds ns us f (enc f).length) false v w from funext fun w => funext fun v => by rw [alw_may, alw_may]]
  rw [frm_grt ns us f _ fun w w' v v' h1 h2 => by rw [may_key ns us f false h1 h2, may_key ns us f false h2 h1]]
  unfold grt sfl
  refine lnk_congr fun x _ y _ => ?_
  simp [gp]
theorem tfl_length (ns us : List Nat) (f : Fm) : (tfl ns us f).length = acn ns us f := lnk_length _ _ _
theorem sfl_length (ns us : List Nat) (f : Fm) : (sfl ns us f).length = acn ns us f := lnk_length _ _ _
/-- how many members a mask has -/
def pcTo (m : Nat) : Nat → Nat
  | 0 => 0
  | k + 1 => pcTo m k + if m.testBit k then 1 else 0
def pc (m : Nat) : Nat := pcTo m 8
theorem pcTo_le (m k : Nat) : pcTo m k ≤ k := by
  induction k with
  | zero => exact Nat.le_refl _
  | succ k ih => rw [pcTo]; split <;> omega
theorem pcTo_end {m k j : Nat} (h : m / 2 ^ j = 0) (hj : j ≤ k) : pcTo m k = pcTo m j := by
  induction k with
  | zero => obtain rfl : j = 0 := by omega
            rfl
  | succ k ih =>
    by_cases hk : j = k + 1
    · rw [hk]
    · rw [pcTo, testBit_out h (show j ≤ k by omega), ih (by omega)]; rfl
/-- how many arrows a filtration may have or not -/
def chTo (lo hi : List Nat) : Nat → Nat
  | 0 => 0
  | k + 1 => chTo lo hi k + pc (andnot (hi.getD k 0) (lo.getD k 0))
theorem chTo_le (lo hi : List Nat) (k : Nat) : chTo lo hi k ≤ 8 * k := by
  induction k with
  | zero => exact Nat.le_refl _
  | succ k ih => have := pcTo_le (andnot (hi.getD k 0) (lo.getD k 0)) 8; rw [chTo, pc]; omega
def chc (ns us : List Nat) (f : Fm) : Nat := chTo (lst ns us f) (gre ns us f) (acn ns us f)
theorem chc_le (ns us : List Nat) (f : Fm) (h : ns.length ≤ 8) : chc ns us f ≤ 64 := by
  have h1 := chTo_le (lst ns us f) (gre ns us f) (acn ns us f)
  have h2 := acn_le ns us f
  unfold chc; omega
/-- the number of filtrations, and the error -/
def cfN (k : Nat) : Int := if 30 < k then 0 else (2 : Int) ^ k
def cfC (k : Nat) : Int := if 30 < k then 3 else 0
/-- values that are put at the places of a list -/
def vset (vs : List Int) (g : Nat → Nat) : Nat → List Nat
  | 0 => List.replicate 6 0
  | j + 1 => (vset vs g j).set (vs.getD j 0).toNat (g (vs.getD j 0).toNat)
theorem vset_length (vs : List Int) (g : Nat → Nat) (j : Nat) : (vset vs g j).length = 6 := by
  induction j with
  | zero => rfl
  | succ j ih => rw [vset, List.length_set, ih]
theorem vset_congr {vs : List Int} {g h : Nat → Nat} (e : ∀ x ∈ vs, g x.toNat = h x.toNat) (j : Nat) (hj : j ≤ vs.length) : vset vs g j = vset vs h j := by
  induction j with
  | zero => rfl
  | succ j ih =>
    rw [vset, vset, ih (by omega), e _ (by rw [List.getD_eq_getElem?_getD, List.getElem?_eq_getElem (show j < vs.length by omega)]; exact List.getElem_mem _)]
theorem vset_no {vs : List Int} {g : Nat → Nat} {p : Nat} (j : Nat) (h : ∀ i, i < j → ¬ (vs.getD i 0).toNat = p) : (vset vs g j).getD p 0 = 0 := by
  induction j with
  | zero =>
    rw [vset, List.getD_eq_getElem?_getD, List.getElem?_replicate]
    split <;> rfl
  | succ j ih =>
    rw [vset, getD_set, if_neg (fun hh => h j (by omega) hh.1)]
    exact ih fun i hi => h i (by omega)
theorem vset_lt {vs : List Int} {g : Nat → Nat} {N : Nat} (hg : ∀ v, g v < 2 ^ N) (j : Nat) : ∀ x ∈ vset vs g j, x < 2 ^ N := by
  induction j with
  | zero => intro x hx; have := List.eq_of_mem_replicate (show x ∈ List.replicate 6 0 from hx); rw [this]; exact Nat.pow_pos (by decide)
  | succ j ih => exact set_lt ih _ _ (hg _)
theorem mems_ne {m i j : Nat} (hij : i < j) (hj : j < (mems m).length) : ¬ ((mems m).getD i 0).toNat = ((mems m).getD j 0).toNat := by
  have hnd : (mems m).Nodup := by
    unfold mems memsTo
    rw [List.nodup_iff_pairwise_ne, List.pairwise_map]
    exact ((List.pairwise_lt_range (n := 64)).filter _).imp fun h e => by omega
  have hi : i < (mems m).length := by omega
  rw [List.getD_eq_getElem?_getD, List.getD_eq_getElem?_getD, List.getElem?_eq_getElem hi, List.getElem?_eq_getElem hj]
  simp only [Option.getD_some]
  obtain ⟨a, -, -, ea⟩ := mems_iff.1 (List.getElem_mem hi)
  obtain ⟨b, -, -, eb⟩ := mems_iff.1 (List.getElem_mem hj)
  intro e
  rw [ea, eb] at e
  have : (mems m)[i] = (mems m)[j] := by rw [ea, eb]; omega
  have := (List.getElem?_inj hi hnd).1 (show (mems m)[i]? = (mems m)[j]? by rw [List.getElem?_eq_getElem hi, List.getElem?_eq_getElem hj]; exact congrArg some this)
  omega
theorem vmask_bit' (xs : List Nd) (n : Nat) : (vmask xs).testBit n = xs.any fun x => x.1 == 0 && x.2.toNat == n := by
  have key : ∀ (xs : List Nd) (m : Nat), (xs.foldl (fun m n => if n.1 = 0 then m ||| 2 ^ n.2.toNat else m) m).testBit n = (m.testBit n || xs.any fun x => x.1 == 0 && x.2.toNat == n) := by
    intro xs
    induction xs with
    | nil => intro m; simp
    | cons x t ih =>
      intro m
      rw [List.foldl_cons, ih, List.any_cons]
      by_cases hx : x.1 = 0
      · rw [if_pos hx, Nat.testBit_or, Nat.testBit_two_pow]
        have e1 : (x.1 == 0) = true := by simp [hx]
        rw [e1, Bool.true_and, Bool.or_assoc]
        congr 2
      · rw [if_neg hx]
        have e1 : (x.1 == 0) = false := by simp [hx]
        rw [e1, Bool.false_and, Bool.false_or]
  have := key xs 0
  simpa [vmask] using this
/-- a variable that occurs is a part -/
theorem var_part {f : Fm} {v : Nat} (h : (vmask (enc f)).testBit v = true) : ∃ i, i < (enc f).length ∧ pt f i = .var v := by
  rw [vmask_bit', List.any_eq_true] at h
  obtain ⟨x, hx, hv⟩ := h
  obtain ⟨i, hi, rfl⟩ := List.getElem_of_mem hx
  refine ⟨i, hi, ?_⟩
  obtain ⟨g, rest, h1, -, h3⟩ := dc_at f i hi
  have e : pt f i = g := by unfold pt; rw [h1]; rfl
  rw [e]
  simp only [Bool.and_eq_true, beq_iff_eq] at hv
  cases g with
  | var s => simp only at h3; rw [h3] at hv; simp at hv; rw [hv]
  | fls => simp only at h3; rw [h3] at hv; simp at hv
  | bin k a b => simp only at h3; rw [h3] at hv; cases k <;> simp [BK.i] at hv
  | un k a => simp only at h3; rw [h3] at hv; cases k <;> simp [UK.i] at hv
/-- a mask whose members are alike, told by the classes and by the least worlds -/
theorem img_first (ns us : List Nat) (f : Fm) (m : Nat) (hm : m < 2 ^ ns.length) (h : ∀ w v, ky ns us f (enc f).length w = ky ns us f (enc f).length v → m.testBit w = m.testBit v) :
    img (pw (acl ns us f)) m = msk (fun k => m.testBit ((afw ns us f).getD k 0)) (acn ns us f) := by
  obtain ⟨hA, hB, -⟩ := dvd_fw (ky ns us f (enc f).length) ns.length
  apply Nat.eq_of_testBit_eq
  intro j
  rw [Bool.eq_iff_iff, img_pw_bit, msk_testBit, Bool.and_eq_true, decide_eq_true_eq]
  constructor
  · rintro ⟨v, hv, hb, hc⟩
    rw [acl_length] at hv
    obtain ⟨h1, h2⟩ := hA v hv
    have h1' : (acl ns us f).getD v 0 < acn ns us f := h1
    rw [hc] at h1'
    refine ⟨h1', ?_⟩
    have h2' : ky ns us f (enc f).length ((afw ns us f).getD ((acl ns us f).getD v 0) 0) = ky ns us f (enc f).length v := h2
    rw [hc] at h2'
    rw [h _ _ h2']; exact hb
  · rintro ⟨hj, hb⟩
    obtain ⟨h1, h2⟩ := hB j hj
    exact ⟨_, by rw [acl_length]; exact h1, hb, h2⟩
theorem img_var (ns us : List Nat) (f : Fm) {v : Nat} (hu : ∀ x ∈ us, x < 2 ^ ns.length) (h : (vmask (enc f)).testBit v = true) :
    img (pw (acl ns us f)) (us.getD v 0) = msk (fun k => (us.getD v 0).testBit ((afw ns us f).getD k 0)) (acn ns us f) := by
  obtain ⟨i, hi, hp⟩ := var_part h
  refine img_first ns us f _ (getD_lt hu v) fun w w' hk => ?_
  have := (ky_iff ns us f _ w w').1 hk i hi
  unfold tb at this
  rw [hp] at this
  exact this
/-- the values of a filtration's model -/
def fmI (ns us : List Nat) (f : Fm) (v : Nat) : Nat := img (pw (acl ns us f)) (us.getD v 0)
def fmS (ns us : List Nat) (f : Fm) (v : Nat) : Nat := msk (fun k => (us.getD v 0).testBit ((afw ns us f).getD k 0)) (acn ns us f)
def fmv (ns us : List Nat) (f : Fm) : List Nat := vset (mems (vmask (enc f))) (fmS ns us f) (mems (vmask (enc f))).length
theorem fmv_I (ns us : List Nat) (f : Fm) (hu : ∀ x ∈ us, x < 2 ^ ns.length) : vset (mems (vmask (enc f))) (fmI ns us f) (mems (vmask (enc f))).length = fmv ns us f := by
  refine vset_congr (fun x hx => ?_) _ (Nat.le_refl _)
  obtain ⟨i, -, hi, rfl⟩ := mems_iff.1 hx
  exact img_var ns us f hu (by simpa using hi)
/- The plain law of FnFiltered: in the model of a filtration each part of the formula is true at a class exactly if it is at its worlds. No program in sight. -/
/-- a part of a formula -/
def Part (f g : Fm) : Prop := ∃ i, i < (enc f).length ∧ pt f i = g
theorem dc_more {f g : Fm} {i : Nat} {rest : List Fm} (hi : i ≤ (enc f).length) (h : dc f i = g :: rest) : i + (enc g).length ≤ (enc f).length := by
  have h4 := dc_drop f i hi
  rw [h, List.flatMap_cons] at h4
  have h5 := congrArg List.length h4
  rw [List.length_drop, List.length_append] at h5
  omega
theorem dc_next {f g : Fm} {i : Nat} {rest : List Fm} (hi : i ≤ (enc f).length) (h : dc f i = g :: rest) : dc f (i + 1) = kids g ++ rest := by
  have h1 := dc_more hi h
  have h2 := enc_pos g
  obtain ⟨g', rest', e1, e2, -⟩ := dc_at f i (by omega)
  rw [h] at e1
  injection e1 with e1 e3
  rw [e2, ← e1, ← e3]
theorem dc_skip {f : Fm} : ∀ {g : Fm} {i : Nat} {rest : List Fm}, i ≤ (enc f).length → dc f i = g :: rest → dc f (i + (enc g).length) = rest := by
  intro g
  induction g with
  | var s => intro i rest hi h; exact dc_next hi h
  | fls => intro i rest hi h; exact dc_next hi h
  | un k a ih =>
    intro i rest hi h
    have h1 := dc_more hi h
    have h2 : dc f (i + 1) = a :: rest := dc_next hi h
    have e : (enc (.un k a)).length = 1 + (enc a).length := by simp [enc]; omega
    rw [e] at h1 ⊢
    rw [← Nat.add_assoc]
    exact ih (by omega) h2
  | bin k a b iha ihb =>
    intro i rest hi h
    have h1 := dc_more hi h
    have h2 : dc f (i + 1) = a :: b :: rest := dc_next hi h
    have e : (enc (.bin k a b)).length = 1 + (enc a).length + (enc b).length := by simp [enc]; omega
    rw [e] at h1 ⊢
    have h3 := iha (by omega) h2
    have := ihb (by omega) h3
    rw [show i + (1 + (enc a).length + (enc b).length) = i + 1 + (enc a).length + (enc b).length by omega]
    exact this
theorem Part.of {f g : Fm} {i : Nat} {rest : List Fm} (hi : i ≤ (enc f).length) (h : dc f i = g :: rest) : Part f g := by
  have h1 := dc_more hi h
  have h2 := enc_pos g
  exact ⟨i, by omega, by unfold pt; rw [h]; rfl⟩
theorem Part.at {f g : Fm} (h : Part f g) : ∃ i rest, i < (enc f).length ∧ dc f i = g :: rest := by
  obtain ⟨i, hi, e⟩ := h
  obtain ⟨rest, h1, -⟩ := pt_at f i hi
  exact ⟨i, rest, hi, by rw [← e]; exact h1⟩
theorem Part.un {f a : Fm} {k : UK} (h : Part f (.un k a)) : Part f a := by
  obtain ⟨i, rest, hi, h1⟩ := h.at
  have h2 : dc f (i + 1) = a :: rest := dc_next (by omega) h1
  exact Part.of (by omega) h2
theorem Part.bin {f a b : Fm} {k : BK} (h : Part f (.bin k a b)) : Part f a ∧ Part f b := by
  obtain ⟨i, rest, hi, h1⟩ := h.at
  have h2 : dc f (i + 1) = a :: b :: rest := dc_next (by omega) h1
  have h3 := dc_skip (by omega) h2
  have h4 := dc_more (by omega) h2
  exact ⟨Part.of (by omega) h2, Part.of (by omega) h3⟩
theorem Part.self (f : Fm) : Part f f := Part.of (Nat.zero_le _) rfl
theorem mds_has (ns us : List Nat) (f : Fm) (n : Nat) : ∀ i, i < n → ∀ a, (pt f i = .un .box a → (true, tv ns us (.un .box a), tv ns us a) ∈ mds ns us f n) ∧ (pt f i = .un .dia a → (false, tv ns us (.un .dia a), tv ns us a) ∈ mds ns us f n) := by
  induction n with
  | zero => intro i hi; omega
  | succ n ih =>
    intro i hi a
    rw [mds]
    rcases Nat.lt_or_ge i n with h | h
    · exact ⟨fun e => List.mem_append_left _ ((ih i h a).1 e), fun e => List.mem_append_left _ ((ih i h a).2 e)⟩
    · obtain rfl : i = n := by omega
      refine ⟨fun e => List.mem_append_right _ ?_, fun e => List.mem_append_right _ ?_⟩
      · rw [e]; simp
      · rw [e]; simp
theorem var_bit {f : Fm} {v : Nat} (h : Part f (.var v)) : (vmask (enc f)).testBit v = true := by
  obtain ⟨i, hi, e⟩ := h
  obtain ⟨rest, h1⟩ := pt_drop f i hi
  rw [vmask_bit', List.any_eq_true]
  refine ⟨(0, (v : Int)), ?_, by simp⟩
  have : (0, (v : Int)) ∈ (enc f).drop i := by rw [h1, e]; simp [enc]
  exact List.mem_of_mem_drop this
theorem vset_has {vs : List Int} {g : Nat → Nat} {p : Nat} (hp : p < 6) (j : Nat) (h : ∃ i, i < j ∧ (vs.getD i 0).toNat = p) : (vset vs g j).getD p 0 = g p := by
  induction j with
  | zero => obtain ⟨i, hi, -⟩ := h; omega
  | succ j ih =>
    rw [vset, getD_set]
    by_cases hj : (vs.getD j 0).toNat = p
    · rw [if_pos ⟨hj, by rw [vset_length, hj]; exact hp⟩, hj]
    · rw [if_neg (fun hh => hj hh.1)]
      obtain ⟨i, hi, e⟩ := h
      refine ih ⟨i, ?_, e⟩
      rcases Nat.lt_or_ge i j with h1 | h1
      · exact h1
      · obtain rfl : i = j := by omega
        exact absurd e hj
theorem fmv_at (ns us : List Nat) {f : Fm} (hok : f.ok = true) {v : Nat} (h : Part f (.var v)) (hv : v ≤ 5) : (fmv ns us f).getD v 0 = fmS ns us f v := by
  have hb := var_bit h
  refine vset_has (by omega) _ ?_
  have hm : (v : Int) ∈ mems (vmask (enc f)) := mems_iff.2 ⟨v, by omega, hb, rfl⟩
  obtain ⟨i, hi, e⟩ := List.getElem_of_mem hm
  exact ⟨i, hi, by rw [List.getD_eq_getElem?_getD, List.getElem?_eq_getElem hi, Option.getD_some, e]; simp⟩
theorem full_bitX {n i : Nat} (h : i < n) : (2 ^ n - 1 : Nat).testBit i = true := by rw [Nat.testBit_two_pow_sub_one, decide_eq_true h]
theorem bx_bitX (ns : List Nat) (m w : Nat) (hw : w < ns.length) (h8 : RelN ns) : (bx ns m).testBit w = true ↔ ∀ v, v < ns.length → (ns.getD w 0).testBit v = true → m.testBit v = true := by
  unfold bx
  rw [msk_testBit, decide_eq_true hw, Bool.true_and, decide_eq_true_eq, andnot_zero]
  exact ⟨fun h v _ hv => h v hv, fun h v hv => h v (bit_lt (getD_lt h8.2 w) hv) hv⟩
theorem dia_bitX (ns us : List Nat) (h : RelN ns) (a : Fm) {x : Nat} (hx : x < ns.length) : (tv ns us (.un .dia a)).testBit x = true ↔ ∃ v, v < ns.length ∧ (ns.getD x 0).testBit v = true ∧ (tv ns us a).testBit v = true := by
  rw [tv, andnot_testBit, full_bitX hx, Bool.true_and, Bool.not_eq_true', ← Bool.not_eq_true, bx_bitX _ _ _ hx h]
  constructor
  · intro hn
    refine Classical.byContradiction fun hc => hn fun v hv hr => ?_
    rw [andnot_testBit, full_bitX hv, Bool.true_and, Bool.not_eq_true']
    cases q : (tv ns us a).testBit v
    · rfl
    · exact absurd ⟨v, hv, hr, q⟩ hc
  · rintro ⟨v, hv, hr, ht⟩ hn
    have := hn v hv hr
    rw [andnot_testBit, ht] at this
    simp at this
/-- the class of a world -/
theorem cls (ns us : List Nat) (f : Fm) :
    (∀ y, y < ns.length → (acl ns us f).getD y 0 < acn ns us f ∧ ky ns us f (enc f).length ((afw ns us f).getD ((acl ns us f).getD y 0) 0) = ky ns us f (enc f).length y) ∧
    (∀ i, i < acn ns us f → (afw ns us f).getD i 0 < ns.length ∧ (acl ns us f).getD ((afw ns us f).getD i 0) 0 = i) :=
  ⟨(dvd_fw _ ns.length).1, (dvd_fw _ ns.length).2.1⟩
theorem part_key {ns us : List Nat} {f g : Fm} (h : Part f g) {w v : Nat} (hk : ky ns us f (enc f).length w = ky ns us f (enc f).length v) : (tv ns us g).testBit w = (tv ns us g).testBit v := by
  obtain ⟨i, hi, rfl⟩ := h
  exact (ky_iff ns us f _ w v).1 hk i hi
/-- what a filtration says of its arrows -/
theorem isf_lo {ns us gs : List Nat} {f : Fm} (h : isf ns us f gs = true) {x y : Nat} (hx : x < ns.length) (hy : y < ns.length) (hr : (ns.getD x 0).testBit y = true) : (gs.getD ((acl ns us f).getD x 0) 0).testBit ((acl ns us f).getD y 0) = true := by
  unfold isf fbw at h
  rw [Bool.and_eq_true, List.all_eq_true] at h
  obtain ⟨hc, -⟩ := cls ns us f
  have h1 := h.2 ((acl ns us f).getD x 0) (List.mem_range.2 (hc x hx).1)
  rw [Bool.and_eq_true, decide_eq_true_eq, andnot_zero] at h1
  refine h1.1 _ ?_
  unfold lst
  rw [qrl_bit _ _ _ (fun w hw => (hc w hw).1)]
  refine ⟨x, hx, rfl, ?_⟩
  rw [img_pw_bit]
  exact ⟨y, by rw [acl_length]; exact hy, hr, rfl⟩
theorem isf_hi {ns us gs : List Nat} {f : Fm} (h : isf ns us f gs = true) {c d : Nat} (hc : c < acn ns us f) (hd : d < acn ns us f) (hr : (gs.getD c 0).testBit d = true) : may (mds ns us f (enc f).length) false ((afw ns us f).getD c 0) ((afw ns us f).getD d 0) = true := by
  unfold isf fbw at h
  rw [Bool.and_eq_true, List.all_eq_true] at h
  have h1 := h.2 c (List.mem_range.2 hc)
  rw [Bool.and_eq_true, decide_eq_true_eq, decide_eq_true_eq, andnot_zero, andnot_zero] at h1
  have h2 := h1.2 d hr
  rw [gre_grt] at h2
  unfold grt at h2
  rw [lnk_getD _ hc, msk_testBit, decide_eq_true hd, Bool.true_and] at h2
  exact h2
theorem may_box {ns us : List Nat} {f a : Fm} (hp : Part f (.un .box a)) {w v : Nat} (h : may (mds ns us f (enc f).length) false w v = true) (hb : (tv ns us (.un .box a)).testBit w = true) : (tv ns us a).testBit v = true := by
  obtain ⟨i, hi, e⟩ := hp
  have hm := (mds_has ns us f _ i hi a).1 e
  unfold may at h
  rw [List.all_eq_true] at h
  have h1 := h _ hm
  simpa [hb] using h1
theorem may_dia {ns us : List Nat} {f a : Fm} (hp : Part f (.un .dia a)) {w v : Nat} (h : may (mds ns us f (enc f).length) false w v = true) (hb : (tv ns us a).testBit v = true) : (tv ns us (.un .dia a)).testBit w = true := by
  obtain ⟨i, hi, e⟩ := hp
  have hm := (mds_has ns us f _ i hi a).2 e
  unfold may at h
  rw [List.all_eq_true] at h
  have h1 := h _ hm
  simpa [hb] using h1
theorem part_ok {f g : Fm} (hok : f.ok = true) (h : Part f g) : g.ok = true := by
  obtain ⟨i, rest, hi, e⟩ := h.at
  have key : ∀ (j : Nat), j ≤ (enc f).length → ∀ q ∈ dc f j, q.ok = true := by
    intro j
    induction j with
    | zero => intro _ q hq; rw [show dc f 0 = [f] from rfl, List.mem_singleton] at hq; rw [hq]; exact hok
    | succ j ih =>
      intro hj q hq
      obtain ⟨g', rest', e1, e2, -⟩ := dc_at f j (by omega)
      rw [e2, List.mem_append] at hq
      have hg := ih (by omega)
      rw [e1] at hg
      rcases hq with hq | hq
      · have hg' := hg g' (by simp)
        cases g' with
        | var s => cases hq
        | fls => cases hq
        | un k a => simp only [kids, List.mem_singleton] at hq; rw [hq]; simpa [Fm.ok] using hg'
        | bin k a b => simp only [kids, List.mem_cons, List.not_mem_nil, or_false] at hq; simp [Fm.ok] at hg'; rcases hq with rfl | rfl; exact hg'.1; exact hg'.2
      · exact hg q (List.mem_cons_of_mem _ hq)
  exact key i (by omega) g (by rw [e]; simp)
theorem filtered {ns us gs : List Nat} {f : Fm} (h1 : MdN ns us) (hok : f.ok = true) (hg : RelN gs) (h : isf ns us f gs = true) (g : Fm) : Part f g → ∀ x, x < ns.length → (tv gs (fmv ns us f) g).testBit ((acl ns us f).getD x 0) = (tv ns us g).testBit x := by
  have hgl : gs.length = acn ns us f := by
    unfold isf at h
    rw [Bool.and_eq_true, decide_eq_true_eq] at h
    exact h.1
  obtain ⟨hcl, hfw⟩ := cls ns us f
  induction g with
  | var v =>
    intro hp x hx
    obtain ⟨i, hi, e⟩ := hp
    have hv : v ≤ 5 := by
      have h2 := part_ok hok ⟨i, hi, e⟩
      simpa [Fm.ok] using h2
    rw [tv, tv, fmv_at ns us hok ⟨i, hi, e⟩ hv]
    unfold fmS
    rw [msk_testBit, decide_eq_true (hcl x hx).1, Bool.true_and]
    exact part_key (g := .var v) ⟨i, hi, e⟩ (hcl x hx).2
  | fls => intro _ x _; rw [tv, tv]; simp
  | un k a ih =>
    intro hp x hx
    have iha := ih hp.un
    obtain ⟨hc, hk⟩ := hcl x hx
    cases k with
    | box =>
      rw [Bool.eq_iff_iff]
      rw [show (tv gs (fmv ns us f) (.un .box a)) = bx gs (tv gs (fmv ns us f) a) from rfl, bx_bitX _ _ _ (by rw [hgl]; exact hc) hg]
      constructor
      · intro hb
        rw [show (tv ns us (.un .box a)) = bx ns (tv ns us a) from rfl, bx_bitX _ _ _ hx h1.r]
        intro y hy hr
        rw [← iha y hy]
        exact hb _ (by rw [hgl]; exact (hcl y hy).1) (isf_lo h hx hy hr)
      · intro hb d hd hr
        rw [hgl] at hd
        obtain ⟨hy, hyd⟩ := hfw d hd
        have := may_box hp (isf_hi h hc hd hr) ((part_key hp hk).trans hb)
        rw [← hyd, iha _ hy]
        exact this
    | dia =>
      rw [Bool.eq_iff_iff, dia_bitX _ _ hg _ (by rw [hgl]; exact hc)]
      constructor
      · rintro ⟨d, hd, hr, hb⟩
        rw [hgl] at hd
        obtain ⟨hy, hyd⟩ := hfw d hd
        rw [← hyd, iha _ hy] at hb
        exact (part_key hp hk).symm.trans (may_dia hp (isf_hi h hc hd hr) hb)
      · intro hb
        rw [dia_bitX _ _ h1.r _ hx] at hb
        obtain ⟨y, hy, hr, hb⟩ := hb
        exact ⟨_, by rw [hgl]; exact (hcl y hy).1, isf_lo h hx hy hr, by rw [iha y hy]; exact hb⟩
  | bin k a b iha ihb =>
    intro hp x hx
    have ha := iha hp.bin.1 x hx
    have hb := ihb hp.bin.2 x hx
    obtain ⟨hc, hk⟩ := hcl x hx
    cases k with
    | and => rw [tv, tv, Nat.testBit_and, Nat.testBit_and, ha, hb]
    | or => rw [tv, tv, Nat.testBit_or, Nat.testBit_or, ha, hb]
    | imp =>
      rw [tv, tv, Nat.testBit_or, Nat.testBit_or, andnot_testBit, andnot_testBit, full_bitX (by rw [hgl]; exact hc), full_bitX hx, ha, hb]
end Go.Proofs.YtboldkahppdmbaaGreatDoor

/- Plain law of FnMerging: quotients and cones of valuations are valuations, and forcing goes over. -/
import Derived.Test.YtomojninngdbeaaGreat24I
import Derived.Test.YtomojninngdbeaaGreatMG
import Derived.Test.YtomojninngdbeaaGreatM05r
namespace Go.Proofs.YtomojninngdbeaaGreat
open Go.RowKit
set_option linter.unusedVariables false
set_option linter.unusedSimpArgs false
def mm (o i : Nat) : Nat := ((mems o).getD i 0).toNat
theorem mm_spec (o : Nat) {i : Nat} (h : i < (mems o).length) : mm o i < 64 ∧ o.testBit (mm o i) = true ∧ (mems o)[i]? = some ((mm o i : Nat) : Int) := by
  have hm : (mems o)[i] ∈ mems o := List.getElem_mem h
  obtain ⟨x, h1, h2, h3⟩ := mems_iff.1 hm
  have e : mm o i = x := by
    unfold mm
    rw [List.getD_eq_getElem?_getD, List.getElem?_eq_getElem h, h3]
    rfl
  rw [e]
  exact ⟨h1, h2, by rw [List.getElem?_eq_getElem h, h3]⟩
theorem mm_onto {o x : Nat} (hx : x < 64) (h : o.testBit x = true) : ∃ i, i < (mems o).length ∧ mm o i = x := by
  obtain ⟨k, hk, h1, -⟩ := mems_find hx h
  refine ⟨k, hk, ?_⟩
  have := (mm_spec o hk).2.2
  rw [this] at h1
  injection h1 with h1
  omega
theorem mems_nodup (o : Nat) : (mems o).Nodup := by
  unfold mems memsTo
  refine List.Pairwise.map _ ?_ (List.Pairwise.filter _ List.nodup_range)
  intro a b h e
  exact h (by have := Int.ofNat.inj e; exact this)
theorem mm_inj {o i j : Nat} (hi : i < (mems o).length) (hj : j < (mems o).length) (h : mm o i = mm o j) : i = j := by
  have h1 := (mm_spec o hi).2.2
  have h2 := (mm_spec o hj).2.2
  rw [h] at h1
  exact (List.getElem?_inj hi (mems_nodup o)).1 (h1.trans h2.symm)
theorem sqz_bit (m o : Nat) {j : Nat} (hj : j < (mems o).length) : (sqz m o).testBit j = m.testBit (mm o j) := by
  unfold sqz
  rw [sqTo_msk, msk_testBit, decide_eq_true hj, Bool.true_and]
  rfl
theorem ptr_getD (ns : List Nat) (o : Nat) {i : Nat} (hi : i < (mems o).length) : (ptr ns o).getD i 0 = sqz (ns.getD (mm o i) 0) o := by
  unfold ptr mm
  rw [List.getD_eq_getElem?_getD, List.getElem?_map, List.getElem?_eq_getElem hi, List.getD_eq_getElem?_getD (l := mems o), List.getElem?_eq_getElem hi]
  rfl
theorem ptv_getD (us : List Nat) (o : Nat) {v : Nat} (hv : v < us.length) : (ptv us o).getD v 0 = sqz (us.getD v 0) o := by
  unfold ptv
  rw [List.getD_eq_getElem?_getD, List.getElem?_map, List.getD_eq_getElem?_getD, List.getElem?_eq_getElem hv]
  rfl
/-- a closed part is bisimilar -/
theorem cone_bz {ns us : List Nat} (h : MdN ns us) {o : Nat} (ho : o < 2 ^ ns.length) (hc : ∀ m v, o.testBit m = true → (ns.getD m 0).testBit v = true → o.testBit v = true) (k : Nat) :
    ∀ {i : Nat}, i < (mems o).length → bz k (ns, us) (ptr ns o, ptv us o) (mm o i) i = true := by
  have hP := pt_md ns us o h ho
  have h8 := h.r.1
  have hlt : ∀ {i : Nat}, i < (mems o).length → mm o i < ns.length := fun hi => bit_lt ho (mm_spec o hi).2.1
  have hat : ∀ {i : Nat}, i < (mems o).length → atm us (ptv us o) (mm o i) i = true := by
    intro i hi
    unfold atm
    rw [List.all_eq_true]
    intro v hv
    rw [List.mem_range] at hv
    rw [ptv_getD us o (by rw [h.l]; exact hv), sqz_bit _ _ hi]
    exact beq_self_eq_true _
  induction k with
  | zero => intro i hi; rw [bz_zero (ns, us) (ptr ns o, ptv us o) (hlt hi) (by rw [ptr_length]; exact hi)]; exact hat hi
  | succ k ih =>
    intro i hi
    rw [bz_succ (A := (ns, us)) (B := (ptr ns o, ptv us o)) h.r hP.r k (hlt hi) (by rw [ptr_length]; exact hi)]
    refine ⟨hat hi, fun s hs hr => ?_, fun t ht hr => ?_⟩
    · have hso := hc _ _ (mm_spec o hi).2.1 hr
      have hs' : s < ns.length := hs
      obtain ⟨j, hj, rfl⟩ := mm_onto (by omega) hso
      exact ⟨j, by rw [ptr_length]; exact hj, by rw [ptr_getD ns o hi, sqz_bit _ _ hj]; exact hr, ih hj⟩
    · rw [ptr_length] at ht
      rw [ptr_getD ns o hi, sqz_bit _ _ ht] at hr
      exact ⟨_, hlt ht, hr, ih ht⟩

structure PosP (ns : List Nat) : Prop where
  r : ∀ x, x < ns.length → (ns.getD x 0).testBit x = true
  t : ∀ x, x < ns.length → ∀ y, y < ns.length → (ns.getD x 0).testBit y = true → ∀ z, (ns.getD y 0).testBit z = true → (ns.getD x 0).testBit z = true
  a : ∀ x, x < ns.length → ∀ y, y < ns.length → (ns.getD x 0).testBit y = true → (ns.getD y 0).testBit x = true → x = y
theorem pfl_pos {ns : List Nat} (hp : pfl ns = true) : PosP ns := by
  unfold pfl at hp
  rw [Bool.and_eq_true, Bool.and_eq_true] at hp
  obtain ⟨⟨h0, h2⟩, h8⟩ := hp
  refine ⟨fun x hx => ?_, fun x hx y hy hb z hz => ?_, fun x hx y hy hb hc => ?_⟩
  · replace h0 : t3 ns (fun x => (ns.getD x 0).testBit x) (fun _ _ => true) (fun _ _ _ => true) = true := h0
    unfold t3 at h0
    rw [List.all_eq_true] at h0
    have := h0 x (List.mem_range.2 hx)
    rw [Bool.and_eq_true] at this
    exact this.1
  · have := (trv_iff ns).1 h2 x hx y hy hb
    rw [← this, Nat.testBit_or, hz, Bool.or_true]
  · replace h8 : t3 ns (fun _ => true) (fun x y => !(!decide (x = y) && (ns.getD y 0).testBit x)) (fun _ _ _ => true) = true := h8
    unfold t3 at h8
    rw [List.all_eq_true] at h8
    have := h8 x (List.mem_range.2 hx)
    rw [Bool.and_eq_true, List.all_eq_true] at this
    have := this.2 y (List.mem_range.2 hy)
    rw [hb] at this
    simp only [Bool.not_true, Bool.false_or, Bool.and_eq_true] at this
    have h9 := this.1
    simp only [hc, Bool.and_true, Bool.not_not, decide_eq_true_eq] at h9
    exact h9
theorem pos_pfl {ns : List Nat} (h : RelN ns) (hp : PosP ns) : pfl ns = true := by
  unfold pfl
  rw [Bool.and_eq_true, Bool.and_eq_true]
  refine ⟨⟨?_, ?_⟩, ?_⟩
  · show t3 ns (fun x => (ns.getD x 0).testBit x) (fun _ _ => true) (fun _ _ _ => true) = true
    unfold t3
    rw [List.all_eq_true]
    intro x hx
    rw [Bool.and_eq_true, List.all_eq_true]
    exact ⟨hp.r x (List.mem_range.1 hx), fun y _ => by simp⟩
  · refine (trv_iff ns).2 fun x hx k hk hb => ?_
    apply Nat.eq_of_testBit_eq
    intro j
    rw [Nat.testBit_or]
    cases hj : (ns.getD k 0).testBit j
    · rw [Bool.or_false]
    · rw [Bool.or_true, hp.t x hx k hk hb j hj]
  · show t3 ns (fun _ => true) (fun x y => !(!decide (x = y) && (ns.getD y 0).testBit x)) (fun _ _ _ => true) = true
    unfold t3
    rw [List.all_eq_true]
    intro x hx
    rw [Bool.and_eq_true, List.all_eq_true]
    refine ⟨rfl, fun y hy => ?_⟩
    have hx := List.mem_range.1 hx
    have hy := List.mem_range.1 hy
    cases hb : (ns.getD x 0).testBit y
    · rfl
    · cases hc : (ns.getD y 0).testBit x
      · simp only [hc, Bool.and_false, Bool.not_false, Bool.true_and, Bool.not_true, Bool.false_or, List.all_eq_true, Bool.or_true, implies_true]
      · have := hp.a x hx y hy hb hc
        simp [this]
theorem vlOk_mk {ns us : List Nat} (h : MdN ns us) (hp : PosP ns) (hu : ∀ u ∈ us, img ns u = u) : vlOk ns.length (li ns) (li us) = true := by
  have h8 := h.r.1
  unfold vlOk psOk
  rw [frOk_li h.r, nL_li, pos_pfl h.r hp, li_length, h.l, decide_eq_true rfl, Bool.true_and, Bool.true_and, Bool.true_and, List.all_eq_true]
  intro m hm
  unfold li at hm
  obtain ⟨u, hu1, rfl⟩ := List.mem_map.1 hm
  unfold upn
  rw [Int.toNat_natCast, decide_eq_true (hu u hu1), Bool.and_true, mkOk_small (by omega)]
  refine inR_true (Int.natCast_nonneg _) ?_
  rw [Int.toNat_natCast, full_cast (by omega)]
  have := h.b u hu1
  exact Int.ofNat_le.2 (by omega)
theorem img_up {ns : List Nat} {u : Nat} (hu : img ns u = u) {y z : Nat} (hy : y < ns.length) (h1 : u.testBit y = true) (h2 : (ns.getD y 0).testBit z = true) : u.testBit z = true := by
  rw [← hu]
  exact (imgTo_bit ns u z ns.length).2 ⟨y, hy, h1, h2⟩
theorem fv_up {ns us : List Nat} (h : MdN ns us) (hp : PosP ns) (hu : ∀ u ∈ us, img ns u = u) (f : Fm) (hpl : f.plain = true) :
    ∀ y, y < ns.length → (fv ns us f).testBit y = true → ∀ z, z < ns.length → (ns.getD y 0).testBit z = true → (fv ns us f).testBit z = true := by
  induction f with
  | var s =>
    intro y hy hb z hz hr
    have e : fv ns us (.var s) = us.getD s 0 := rfl
    rw [e] at hb ⊢
    rcases Nat.lt_or_ge s us.length with hs | hs
    · exact img_up (hu _ (getD_mem hs)) hy hb hr
    · rw [List.getD_eq_getElem?_getD, List.getElem?_eq_none hs] at hb
      simp at hb
  | fls =>
    intro y hy hb
    have e : fv ns us .fls = 0 := rfl
    rw [e, Nat.zero_testBit] at hb
    cases hb
  | un k a ih => cases hpl
  | bin k a b iha ihb =>
    rw [Fm.plain, Bool.and_eq_true] at hpl
    intro y hy hb z hz hr
    cases k with
    | and =>
      have e : fv ns us (.bin .and a b) = fv ns us a &&& fv ns us b := rfl
      rw [e, Nat.testBit_and, Bool.and_eq_true] at hb ⊢
      exact ⟨iha hpl.1 y hy hb.1 z hz hr, ihb hpl.2 y hy hb.2 z hz hr⟩
    | or =>
      have e : fv ns us (.bin .or a b) = fv ns us a ||| fv ns us b := rfl
      rw [e, Nat.testBit_or, Bool.or_eq_true] at hb ⊢
      exact hb.imp (fun h1 => iha hpl.1 y hy h1 z hz hr) (fun h1 => ihb hpl.2 y hy h1 z hz hr)
    | imp =>
      have e : fv ns us (.bin .imp a b) = bx ns (andnot (2 ^ ns.length - 1) (fv ns us a) ||| fv ns us b) := rfl
      rw [e] at hb ⊢
      rw [bx_bit ns _ _ hy h.r] at hb
      rw [bx_bit ns _ _ hz h.r]
      exact fun v hv hvz => hb v hv (hp.t y hy z hz hr v hvz)
/-- the cone of an element -/
theorem cone_closed {ns : List Nat} (h : RelN ns) (hp : PosP ns) {x : Nat} (hx : x < ns.length) (m v : Nat) (hm : (ns.getD x 0).testBit m = true) (hv : (ns.getD m 0).testBit v = true) : (ns.getD x 0).testBit v = true :=
  hp.t x hx m (bit_lt (getD_lt h.2 x) hm) hm v hv
theorem cone_full {ns us : List Nat} (h : MdN ns us) (hp : PosP ns) (hu : ∀ u ∈ us, img ns u = u) (f : Fm) (hpl : f.plain = true) {x : Nat} (hx : x < ns.length) :
    fv (ptr ns (ns.getD x 0)) (ptv us (ns.getD x 0)) f = 2 ^ (ptr ns (ns.getD x 0)).length - 1 ↔ (fv ns us f).testBit x = true := by
  have ho := getD_lt h.r.2 x
  have hP := pt_md ns us _ h ho
  have h8 := h.r.1
  have hlt : ∀ {i : Nat}, i < (mems (ns.getD x 0)).length → mm (ns.getD x 0) i < ns.length := fun hi => bit_lt ho (mm_spec _ hi).2.1
  have key : ∀ {i : Nat}, i < (mems (ns.getD x 0)).length → (fv ns us f).testBit (mm (ns.getD x 0) i) = (fv (ptr ns (ns.getD x 0)) (ptv us (ns.getD x 0)) f).testBit i := fun hi =>
    bz_tv (A := (ns, us)) (B := (ptr ns (ns.getD x 0), ptv us (ns.getD x 0))) h.r hP.r h.l hP.l (gt f) (hlt hi) (by rw [ptr_length]; exact hi) (cone_bz h ho (cone_closed h.r hp hx) 16 hi)
  rw [ptr_length]
  constructor
  · intro e
    obtain ⟨i, hi, hm⟩ := mm_onto (o := ns.getD x 0) (x := x) (by omega) (hp.r x hx)
    have := key hi
    rw [hm] at this
    rw [this, e, Nat.testBit_two_pow_sub_one, decide_eq_true hi]
  · intro hb
    apply Nat.eq_of_testBit_eq
    intro j
    rw [Nat.testBit_two_pow_sub_one]
    rcases Nat.lt_or_ge j (mems (ns.getD x 0)).length with hj | hj
    · rw [decide_eq_true hj, ← key hj]
      exact fv_up h hp hu f hpl x hx hb _ (hlt hj) (mm_spec _ hj).2.1
    · rw [decide_eq_false (by omega)]
      have hl := tv_lt (ptr ns (ns.getD x 0)) (ptv us (ns.getD x 0)) hP.b (gt f)
      rw [ptr_length] at hl
      exact Nat.testBit_lt_two_pow (Nat.lt_of_lt_of_le hl (Nat.pow_le_pow_right (by decide) hj))
theorem cone_pos {ns us : List Nat} (h : MdN ns us) (hp : PosP ns) {o : Nat} (ho : o < 2 ^ ns.length) : PosP (ptr ns o) := by
  have hlt : ∀ {i : Nat}, i < (mems o).length → mm o i < ns.length := fun hi => bit_lt ho (mm_spec o hi).2.1
  have hP := pt_md ns us o h ho
  refine ⟨fun x hx => ?_, fun x hx y hy hb z hz => ?_, fun x hx y hy hb hc => ?_⟩
  · rw [ptr_length] at hx
    rw [ptr_getD ns o hx, sqz_bit _ _ hx]
    exact hp.r _ (hlt hx)
  · have hzl := bit_lt (getD_lt hP.r.2 y) hz
    rw [ptr_length] at hx hy hzl
    rw [ptr_getD ns o hx, sqz_bit _ _ hy] at hb
    rw [ptr_getD ns o hy, sqz_bit _ _ hzl] at hz
    rw [ptr_getD ns o hx, sqz_bit _ _ hzl]
    exact hp.t _ (hlt hx) _ (hlt hy) hb _ hz
  · rw [ptr_length] at hx hy
    rw [ptr_getD ns o hx, sqz_bit _ _ hy] at hb
    rw [ptr_getD ns o hy, sqz_bit _ _ hx] at hc
    exact mm_inj hx hy (hp.a _ (hlt hx) _ (hlt hy) hb hc)
theorem cone_img {ns us : List Nat} (h : MdN ns us) (hp : PosP ns) (hu : ∀ u ∈ us, img ns u = u) {o : Nat} (ho : o < 2 ^ ns.length) : ∀ u ∈ ptv us o, img (ptr ns o) u = u := by
  have hlt : ∀ {i : Nat}, i < (mems o).length → mm o i < ns.length := fun hi => bit_lt ho (mm_spec o hi).2.1
  have hP := pt_md ns us o h ho
  intro u' hu'
  unfold ptv at hu'
  obtain ⟨u, hu1, rfl⟩ := List.mem_map.1 hu'
  apply Nat.eq_of_testBit_eq
  intro j
  rw [Bool.eq_iff_iff]
  unfold img
  rw [imgTo_bit]
  constructor
  · rintro ⟨i, hi, h1, h2⟩
    have hj := bit_lt (getD_lt hP.r.2 i) h2
    rw [ptr_length] at hi hj
    rw [sqz_bit _ _ hi] at h1
    rw [ptr_getD ns o hi, sqz_bit _ _ hj] at h2
    rw [sqz_bit _ _ hj]
    exact img_up (hu u hu1) (hlt hi) h1 h2
  · intro hb
    have hj := bit_lt (sqz_lt u o) hb
    refine ⟨j, by rw [ptr_length]; exact hj, hb, ?_⟩
    rw [ptr_getD ns o hj, sqz_bit _ _ hj]
    exact hp.r _ (hlt hj)
theorem cone_vl {ns us : List Nat} (h : MdN ns us) (hp : PosP ns) (hu : ∀ u ∈ us, img ns u = u) {o : Nat} (ho : o < 2 ^ ns.length) : MdN (ptr ns o) (ptv us o) ∧ vlOk (ptr ns o).length (li (ptr ns o)) (li (ptv us o)) = true :=
  ⟨pt_md ns us o h ho, vlOk_mk (pt_md ns us o h ho) (cone_pos h hp ho) (cone_img h hp hu ho)⟩
/-- what a member of a class sees, all members see, class by class -/
theorem qsee {ns us : List Nat} (h : MdN ns us) {x c j : Nat} (hx : x < ns.length) (hc : (qcl ns us).getD x 0 = c) (hb : ((QM ns us).1.getD c 0).testBit j = true) : ∃ v, v < ns.length ∧ (ns.getD x 0).testBit v = true ∧ (qcl ns us).getD v 0 = j := by
  obtain ⟨w, hw, hwc, v, hv, hr, hj⟩ := (QM_arrow ns us c j).1 hb
  have hcor := qcl_cor h.r x (by rw [qcl_length]; exact hx) w (by rw [qcl_length]; exact hw) (hc.trans hwc.symm)
  have : (img (pw (qcl ns us)) (ns.getD w 0)).testBit j = true := (img_pw_bit _ _).2 ⟨v, by rw [qcl_length]; exact hv, hr, hj⟩
  rw [← hcor] at this
  obtain ⟨v', p, q, r⟩ := (img_pw_bit _ _).1 this
  rw [qcl_length] at p
  exact ⟨v', p, q, r⟩
theorem qpos {ns us : List Nat} (h : MdN ns us) (hp : PosP ns) : PosP (QM ns us).1 := by
  refine ⟨fun c hc => ?_, fun c hc d hd hb e he => ?_, fun c hc d hd hb hd2 => ?_⟩
  · rw [QM_len] at hc
    obtain ⟨w, hw, hwc⟩ := qcl_onto ns us hc
    exact (QM_arrow ns us c c).2 ⟨w, hw, hwc, w, hw, hp.r w hw, hwc⟩
  · obtain ⟨w, hw, hwc, v, hv, hr, hj⟩ := (QM_arrow ns us c d).1 hb
    obtain ⟨v', p, q, r⟩ := qsee h hv hj he
    exact (QM_arrow ns us c e).2 ⟨w, hw, hwc, v', p, hp.t w hw v hv hr v' q, r⟩
  · have key : ∀ k, ∀ x c d, x < ns.length → ns.getD x 0 = k → (qcl ns us).getD x 0 = c → ((QM ns us).1.getD c 0).testBit d = true → ((QM ns us).1.getD d 0).testBit c = true → c = d := by
      intro k
      induction k using Nat.strongRecOn with
      | ind k ih =>
        intro x c d hx hk hxc h1 h2
        obtain ⟨y, hy, hr, hyd⟩ := qsee h hx hxc h1
        by_cases e : x = y
        · subst e; exact hxc.symm.trans hyd
        · have hle : ns.getD y 0 ≤ ns.getD x 0 := by
            have : ns.getD y 0 &&& ns.getD x 0 = ns.getD y 0 := by
              apply Nat.eq_of_testBit_eq
              intro j
              rw [Nat.testBit_and]
              cases hj : (ns.getD y 0).testBit j
              · rfl
              · rw [hp.t x hx y hy hr j hj]; rfl
            rw [← this]
            exact Nat.and_le_right
          have hne : ns.getD y 0 ≠ ns.getD x 0 := fun e2 => e (hp.a x hx y hy hr (by rw [e2]; exact hp.r x hx))
          exact (ih (ns.getD y 0) (by omega) y d c hy rfl hyd h2 h1).symm
    rw [QM_len] at hc
    obtain ⟨w, hw, hwc⟩ := qcl_onto ns us hc
    exact key _ w c d hw rfl hwc hb hd2
theorem qimg {ns us : List Nat} (h : MdN ns us) (hp : PosP ns) (hu : ∀ u ∈ us, img ns u = u) : ∀ u ∈ (QM ns us).2, img (QM ns us).1 u = u := by
  have hQ := QM_ok h
  intro u' hu'
  have hlt := hQ.b u' hu'
  have hu2 : u' ∈ us.map fun u => img (pw (qcl ns us)) u := hu'
  obtain ⟨u, hu1, rfl⟩ := List.mem_map.1 hu2
  apply Nat.eq_of_testBit_eq
  intro j
  rw [Bool.eq_iff_iff]
  show (imgTo (QM ns us).1 (img (pw (qcl ns us)) u) (QM ns us).1.length).testBit j = true ↔ _
  rw [imgTo_bit]
  constructor
  · rintro ⟨c, hc, h1, h2⟩
    obtain ⟨v, p, q, r⟩ := (img_pw_bit _ _).1 h1
    rw [qcl_length] at p
    obtain ⟨v', p', q', r'⟩ := qsee h p r h2
    exact (img_pw_bit _ _).2 ⟨v', by rw [qcl_length]; exact p', img_up (hu u hu1) p q q', r'⟩
  · intro hb
    have hj := bit_lt hlt hb
    exact ⟨j, hj, hb, (qpos h hp).r j hj⟩
theorem q_vl {ns us : List Nat} (h : MdN ns us) (hp : PosP ns) (hu : ∀ u ∈ us, img ns u = u) : vlOk (qn ns us : Nat) (li (QM ns us).1) (li (QM ns us).2) = true := by
  have := vlOk_mk (QM_ok h) (qpos h hp) (qimg h hp hu)
  rwa [QM_len] at this
theorem q_fv {ns us : List Nat} (h : MdN ns us) (f : Fm) {x : Nat} (hx : x < ns.length) : (fv ns us f).testBit x = (fv (QM ns us).1 (QM ns us).2 f).testBit ((qcl ns us).getD x 0) := QM_tv h (gt f) hx
end Go.Proofs.YtomojninngdbeaaGreat

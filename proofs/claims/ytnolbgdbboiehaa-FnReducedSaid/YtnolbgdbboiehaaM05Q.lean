/- Plain law of FnReduced: the part of a model that a world generates is bisimilar to the model, and all of its quotient is reached from the world's class. No program in sight. -/
import Derived.Test.YtnolbgdbboiehaaM07V
import Derived.Test.YtnolbgdbboiehaaM05r
import Derived.Test.YtnolbgdbboiehaaM07T
namespace Go.Proofs.Ytnolbgdbboiehaa
open Go.RowKit
set_option linter.unusedVariables false
set_option linter.unusedSimpArgs false
/-- the i-th member of a mask -/
def mm (o i : Nat) : Nat := ((mems o).getD i 0).toNat
theorem mm_spec (o : Nat) {i : Nat} (h : i < (mems o).length) : mm o i < 64 ∧ o.testBit (mm o i) = true ∧ (mems o)[i]? = some ((mm o i : Nat) : Int) := by
  have hm : (mems o)[i] ∈ mems o := List.getElem_mem h
  obtain ⟨x, h1, h2, h3⟩ := mems_iff.1 hm
  have e : mm o i = x := by
    unfold mm
    rw [List.getD_eq_getElem?_getD, List.getElem?_eq_getElem h, h3]
    rfl
  rw [e]
  exact ⟨h1, h2, by rw [List.getElem?_eq_getElem h, h3]⟩
theorem mm_onto {o x : Nat} (hx : x < 64) (h : o.testBit x = true) : ∃ i, i < (mems o).length ∧ mm o i = x := by
  obtain ⟨k, hk, h1, -⟩ := mems_find hx h
  refine ⟨k, hk, ?_⟩
  have := (mm_spec o hk).2.2
  rw [this] at h1
  injection h1 with h1
  omega
theorem mems_nodup (o : Nat) : (mems o).Nodup := by
  unfold mems memsTo
  refine List.Pairwise.map _ ?_ (List.Pairwise.filter _ List.nodup_range)
  intro a b h e
  exact h (by have := Int.ofNat.inj e; exact this)
theorem mm_inj {o i j : Nat} (hi : i < (mems o).length) (hj : j < (mems o).length) (h : mm o i = mm o j) : i = j := by
  have h1 := (mm_spec o hi).2.2
  have h2 := (mm_spec o hj).2.2
  rw [h] at h1
  exact (List.getElem?_inj hi (mems_nodup o)).1 (h1.trans h2.symm)
theorem sqz_bit (m o : Nat) {j : Nat} (hj : j < (mems o).length) : (sqz m o).testBit j = m.testBit (mm o j) := by
  unfold sqz
  rw [sqTo_msk, msk_testBit, decide_eq_true hj, Bool.true_and]
  rfl
theorem ptr_getD (ns : List Nat) (o : Nat) {i : Nat} (hi : i < (mems o).length) : (ptr ns o).getD i 0 = sqz (ns.getD (mm o i) 0) o := by
  unfold ptr mm
  rw [List.getD_eq_getElem?_getD, List.getElem?_map, List.getElem?_eq_getElem hi, List.getD_eq_getElem?_getD (l := mems o), List.getElem?_eq_getElem hi]
  rfl
theorem ptv_getD (us : List Nat) (o : Nat) {v : Nat} (hv : v < us.length) : (ptv us o).getD v 0 = sqz (us.getD v 0) o := by
  unfold ptv
  rw [List.getD_eq_getElem?_getD, List.getElem?_map, List.getD_eq_getElem?_getD, List.getElem?_eq_getElem hv]
  rfl
/-- a closed part is bisimilar -/
theorem part_bz {ns us : List Nat} (h : MdN ns us) {o : Nat} (ho : o < 2 ^ ns.length) (hc : ∀ m v, o.testBit m = true → (ns.getD m 0).testBit v = true → o.testBit v = true) (k : Nat) :
    ∀ {i : Nat}, i < (mems o).length → bz k (ns, us) (ptr ns o, ptv us o) (mm o i) i = true := by
  have hP := pt_md ns us o h ho
  have h8 := h.r.1
  have hlt : ∀ {i : Nat}, i < (mems o).length → mm o i < ns.length := fun hi => bit_lt ho (mm_spec o hi).2.1
  have hat : ∀ {i : Nat}, i < (mems o).length → atm us (ptv us o) (mm o i) i = true := by
    intro i hi
    unfold atm
    rw [List.all_eq_true]
    intro v hv
    rw [List.mem_range] at hv
    rw [ptv_getD us o (by rw [h.l]; exact hv), sqz_bit _ _ hi]
    exact beq_self_eq_true _
  induction k with
  | zero => intro i hi; rw [bz_zero (ns, us) (ptr ns o, ptv us o) (hlt hi) (by rw [ptr_length]; exact hi)]; exact hat hi
  | succ k ih =>
    intro i hi
    rw [bz_succ (A := (ns, us)) (B := (ptr ns o, ptv us o)) h.r hP.r k (hlt hi) (by rw [ptr_length]; exact hi)]
    refine ⟨hat hi, fun s hs hr => ?_, fun t ht hr => ?_⟩
    · have hso := hc _ _ (mm_spec o hi).2.1 hr
      have hs' : s < ns.length := hs
      obtain ⟨j, hj, rfl⟩ := mm_onto (by omega) hso
      exact ⟨j, by rw [ptr_length]; exact hj, by rw [ptr_getD ns o hi, sqz_bit _ _ hj]; exact hr, ih hj⟩
    · rw [ptr_length] at ht
      rw [ptr_getD ns o hi, sqz_bit _ _ ht] at hr
      exact ⟨_, hlt ht, hr, ih ht⟩
theorem rch_self (ns : List Nat) (x : Nat) : (rch ns x).testBit x = true := by rw [rch_bit]; simp
theorem rch_closed (ns : List Nat) (h : RelN ns) {x : Nat} (hx : x < ns.length) (m v : Nat) (hm : (rch ns x).testBit m = true) (hv : (ns.getD m 0).testBit v = true) : (rch ns x).testBit v = true := by
  rw [rch_bit, Bool.or_eq_true, decide_eq_true_eq] at hm ⊢
  have h4 := clo_sub ns ns.length m v hv
  rcases hm with hm | hm
  · exact .inl (clo_trans ns h.2 hx hm h4)
  · subst hm; exact .inl h4
/-- what is reached has each property that the world has and that arrows keep -/
theorem rch_ind (ns : List Nat) (h : RelN ns) {x : Nat} (hx : x < ns.length) (S : Nat → Prop) (h0 : S x) (hS : ∀ m v, S m → (ns.getD m 0).testBit v = true → S v) : ∀ j, (rch ns x).testBit j = true → S j := by
  intro j hj
  rw [rch_bit, Bool.or_eq_true, decide_eq_true_eq] at hj
  rcases hj with hj | hj
  · exact clo_min ns S hS ns.length (Nat.le_refl _) x j hx h0 hj
  · subst hj; exact h0
/-- the part that a world generates -/
def PM (ns us : List Nat) (x : Nat) : Mo := (ptr ns (rch ns x), ptv us (rch ns x))
theorem PM_ok {ns us : List Nat} (h : MdN ns us) {x : Nat} (hx : x < ns.length) : MdN (PM ns us x).1 (PM ns us x).2 := pt_md ns us _ h (rch_lt ns h.r.2 hx)
theorem PM_bz {ns us : List Nat} (h : MdN ns us) {x k : Nat} (hx : x < ns.length) (hk : k < (mems (rch ns x)).length) (hk1 : (mems (rch ns x))[k]? = some (x : Int)) (r : Nat) : bz r (ns, us) (PM ns us x) x k = true := by
  have := part_bz h (rch_lt ns h.r.2 hx) (fun m v hm hv => rch_closed ns h.r hx m v hm hv) r hk
  have e : mm (rch ns x) k = x := by
    have := (mm_spec _ hk).2.2
    rw [this] at hk1
    injection hk1 with hk1
    omega
  rw [e] at this
  exact this
/-- the reduced model is bisimilar to its model -/
theorem RM_bz {ns us : List Nat} (h : MdN ns us) {x k : Nat} (hx : x < ns.length) (hk : k < (mems (rch ns x)).length) (hk1 : (mems (rch ns x))[k]? = some (x : Int)) (r : Nat) :
    bz r (ns, us) (QM (PM ns us x).1 (PM ns us x).2) x ((qcl (PM ns us x).1 (PM ns us x).2).getD k 0) = true := by
  have hP := PM_ok h hx
  have hkP : k < (PM ns us x).1.length := by show k < (ptr ns (rch ns x)).length; rw [ptr_length]; exact hk
  exact bz_trans (A := (ns, us)) (B := PM ns us x) h.r hP.r (QM_ok hP).r r hx hkP (by rw [QM_len]; exact qcl_ltn _ _ hkP) (PM_bz h hx hk hk1 r) (QM_bz hP r hkP)
/-- all of it is reached from the world's class -/
theorem RM_rch {ns us : List Nat} (h : MdN ns us) {x k : Nat} (hx : x < ns.length) (hk : k < (mems (rch ns x)).length) (hk1 : (mems (rch ns x))[k]? = some (x : Int)) :
    rch (QM (PM ns us x).1 (PM ns us x).2).1 ((qcl (PM ns us x).1 (PM ns us x).2).getD k 0) = 2 ^ qn (PM ns us x).1 (PM ns us x).2 - 1 := by
  have hP := PM_ok h hx
  have hQ := QM_ok hP
  have h8 := h.r.1
  have hkP : k < (PM ns us x).1.length := by show k < (ptr ns (rch ns x)).length; rw [ptr_length]; exact hk
  have hlen : (PM ns us x).1.length = (mems (rch ns x)).length := ptr_length _ _
  have hq := qcl_ltn (PM ns us x).1 (PM ns us x).2 hkP
  have hmk : mm (rch ns x) k = x := by
    have := (mm_spec _ hk).2.2
    rw [this] at hk1
    injection hk1 with hk1
    omega
  -- all elements of the part are reached in it
  have reach : ∀ j, j < (PM ns us x).1.length → (rch (PM ns us x).1 k).testBit j = true := by
    intro j hj
    rw [hlen] at hj
    have := rch_ind ns h.r hx (fun m => ∃ i, i < (mems (rch ns x)).length ∧ mm (rch ns x) i = m ∧ (rch (PM ns us x).1 k).testBit i = true)
      ⟨k, hk, hmk, rch_self _ _⟩ (fun m v ⟨i, hi, hm, hr⟩ hv => by
        subst hm
        have hvo := rch_closed ns h.r hx _ _ (mm_spec _ hi).2.1 hv
        obtain ⟨i', hi', rfl⟩ := mm_onto (by have := bit_lt (getD_lt h.r.2 _) hv; omega) hvo
        refine ⟨i', hi', rfl, rch_closed _ hP.r hkP i i' hr ?_⟩
        show ((ptr ns (rch ns x)).getD i 0).testBit i' = true
        rw [ptr_getD ns _ hi, sqz_bit _ _ hi']
        exact hv) _ (mm_spec _ hj).2.1
    obtain ⟨i, hi, he, hr⟩ := this
    rw [mm_inj hi hj he] at hr
    exact hr
  have reachQ : ∀ j, (rch (PM ns us x).1 k).testBit j = true → j < (PM ns us x).1.length ∧ (rch (QM (PM ns us x).1 (PM ns us x).2).1 ((qcl (PM ns us x).1 (PM ns us x).2).getD k 0)).testBit ((qcl (PM ns us x).1 (PM ns us x).2).getD j 0) = true :=
    rch_ind _ hP.r hkP _ ⟨hkP, rch_self _ _⟩ fun m v ⟨hm, hr⟩ hv => by
      have hvl := bit_lt (getD_lt hP.r.2 m) hv
      exact ⟨hvl, rch_closed _ hQ.r (by rw [QM_len]; exact hq) _ _ hr ((QM_arrow _ _ _ _).2 ⟨m, hm, rfl, v, hvl, hv, rfl⟩)⟩
  apply Nat.eq_of_testBit_eq
  intro c
  rw [Nat.testBit_two_pow_sub_one, Bool.eq_iff_iff, decide_eq_true_eq]
  constructor
  · intro hc
    have := rch_lt _ hQ.r.2 (x := (qcl (PM ns us x).1 (PM ns us x).2).getD k 0) (by rw [QM_len]; exact hq)
    rw [QM_len] at this
    exact bit_lt this hc
  · intro hc
    obtain ⟨j, hj, rfl⟩ := qcl_onto _ _ hc
    exact (reachQ j (reach j hj)).2
/-- worlds that no round tells apart -/
theorem rd_none {ns us ks ts : List Nat} {x y : Nat} (h : ∀ r, bz r (ns, us) (ks, ts) x y = true) : rd ns us ks ts x y = none := by
  unfold rd
  rw [List.find?_eq_none]
  intro k _
  have := h k
  unfold bz at this
  simp only at this
  rw [this]
  decide
theorem mkN_ok {n m : Nat} (hn : n ≤ 8) (hm : m < 2 ^ n) : mkOk n (m : Int) = true := by
  rw [mkOk_small (by omega)]
  refine inR_true (by omega) ?_
  rw [Int.toNat_natCast, full_cast (by omega)]
  exact Int.ofNat_le.2 (by omega)
theorem frN_ok {gs : List Nat} (h : RelN gs) : frOk gs.length (li gs) = true := by
  have h1 := h.1
  unfold frOk
  rw [inR_true (by omega) (by omega), Bool.true_and, li_length, decide_eq_true rfl, Bool.true_and]
  unfold relOk
  rw [List.all_eq_true]
  intro m hm
  unfold li at hm
  obtain ⟨a, ha, rfl⟩ := List.mem_map.1 hm
  rw [li_length]
  exact mkN_ok h1 (h.2 a ha)
theorem mdN_ok {ns us : List Nat} (h : MdN ns us) : mdOk ns.length (li ns) (li us) = true := by
  unfold mdOk
  rw [frN_ok h.r, li_length, h.l, decide_eq_true rfl, Bool.true_and, Bool.true_and, List.all_eq_true]
  intro m hm
  unfold li at hm
  obtain ⟨a, ha, rfl⟩ := List.mem_map.1 hm
  exact mkN_ok h.r.1 (h.b a ha)
end Go.Proofs.Ytnolbgdbboiehaa

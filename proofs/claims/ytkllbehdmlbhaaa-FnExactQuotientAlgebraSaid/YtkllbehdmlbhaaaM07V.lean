/- Plain law: the quotient of a model by bisimilarity: its worlds are bisimilar to those of their classes, it keeps truth, and it is its own quotient. No program in sight. -/
import Derived.Test.YtkllbehdmlbhaaaM07S
import Derived.Test.YtkllbehdmlbhaaaEA
import Derived.Test.YtkllbehdmlbhaaaQU
namespace Go.Proofs.Ytkllbehdmlbhaaa
open Go.RowKit
set_option linter.unusedVariables false
set_option linter.unusedSimpArgs false
theorem qn_cnt (ns us : List Nat) : qn ns us = (bcl ns us ns.length).2 := by
  obtain ⟨hA, hB, -⟩ := dvd_fw (fun y => (bnd ns us ns us 16).getD y 0) ns.length
  have h1 := mx_le (qcl ns us) (bcl ns us ns.length).2 (qcl ns us).length fun i hi => dvd_lt _ _ _ (getD_mem hi)
  unfold qn
  rcases Nat.eq_zero_or_pos (bcl ns us ns.length).2 with h0 | h0
  · omega
  · obtain ⟨p, q⟩ := hB ((bcl ns us ns.length).2 - 1) (by unfold bcl at h0 ⊢; omega)
    have := mx_gt (qcl ns us) (k := (qcl ns us).length) (i := (fw (fun y => (bnd ns us ns us 16).getD y 0) ns.length).getD ((bcl ns us ns.length).2 - 1) 0) (by rw [qcl_length]; exact p)
    have q' : (qcl ns us).getD ((fw (fun y => (bnd ns us ns us 16).getD y 0) ns.length).getD ((bcl ns us ns.length).2 - 1) 0) 0 = (bcl ns us ns.length).2 - 1 := q
    omega
theorem qcl_ltn (ns us : List Nat) {x : Nat} (hx : x < ns.length) : (qcl ns us).getD x 0 < qn ns us := by
  rw [qn_cnt]
  exact ((dvd_fw (fun y => (bnd ns us ns us 16).getD y 0) ns.length).1 x hx).1
theorem qcl_memlt (ns us : List Nat) : ∀ c ∈ qcl ns us, c < qn ns us := by
  intro c hc
  obtain ⟨i, hi, rfl⟩ := List.mem_iff_getElem.1 hc
  have := qcl_ltn ns us (x := i) (by rw [← qcl_length ns us]; exact hi)
  rwa [List.getD_eq_getElem?_getD, List.getElem?_eq_getElem hi] at this
theorem qcl_onto (ns us : List Nat) {c : Nat} (hc : c < qn ns us) : ∃ x, x < ns.length ∧ (qcl ns us).getD x 0 = c := by
  rw [qn_cnt] at hc
  exact ⟨_, (dvd_fw (fun y => (bnd ns us ns us 16).getD y 0) ns.length).2.1 c hc⟩
theorem qcl_eq {ns us : List Nat} (h : RelN ns) {x y : Nat} (hx : x < ns.length) (hy : y < ns.length) : (qcl ns us).getD x 0 = (qcl ns us).getD y 0 ↔ bz 16 (ns, us) (ns, us) x y = true := by
  obtain ⟨hA, -, hC⟩ := dvd_fw (fun y => (bnd ns us ns us 16).getD y 0) ns.length
  have hrow := rel_row ns us h 16 (x := y) (y := x) hy hx
  have e : bz 16 (ns, us) (ns, us) x y = ((bnd ns us ns us 16).getD x 0).testBit y := rfl
  rw [e, hrow, decide_eq_true_eq]
  constructor
  · intro hc
    have h1 := (hA x hx).2
    have h2 := (hA y hy).2
    have hc' : (dvd (fun y => (bnd ns us ns us 16).getD y 0) ns.length).1.getD x 0 = (dvd (fun y => (bnd ns us ns us 16).getD y 0) ns.length).1.getD y 0 := hc
    rw [hc'] at h1
    exact h1.symm.trans h2
  · intro hr
    exact hC x y hx hy hr
/-- the quotient -/
def QM (ns us : List Nat) : Mo := (qrl (qcl ns us) ns (qn ns us) ns.length, qvl (qcl ns us) us)
theorem QM_len (ns us : List Nat) : (QM ns us).1.length = qn ns us := qrl_length _ _ _ _
theorem QM_ok {ns us : List Nat} (h : MdN ns us) : MdN (QM ns us).1 (QM ns us).2 := by
  refine ⟨⟨?_, ?_⟩, ?_, ?_⟩
  · rw [QM_len]; exact qn_le ns us h.r.1
  · rw [QM_len]; exact qrl_lt _ (qcl_memlt ns us) _
  · show (qvl (qcl ns us) us).length = 6
    rw [qvl_length, h.l]
  · rw [QM_len]; exact qvl_lt (qcl_memlt ns us)
theorem QM_arrow (ns us : List Nat) (c j : Nat) : ((QM ns us).1.getD c 0).testBit j = true ↔ ∃ w, w < ns.length ∧ (qcl ns us).getD w 0 = c ∧ ∃ v, v < ns.length ∧ (ns.getD w 0).testBit v = true ∧ (qcl ns us).getD v 0 = j := by
  unfold QM
  simp only
  rw [qrl_bit _ _ _ fun w hw => qcl_ltn ns us hw]
  constructor
  · rintro ⟨w, h1, h2, h3⟩
    obtain ⟨v, p, q, r⟩ := (img_pw_bit _ _).1 h3
    exact ⟨w, h1, h2, v, by rw [← qcl_length ns us]; exact p, q, r⟩
  · rintro ⟨w, h1, h2, v, p, q, r⟩
    exact ⟨w, h1, h2, (img_pw_bit _ _).2 ⟨v, by rw [qcl_length]; exact p, q, r⟩⟩
theorem qvl_getD (cl us : List Nat) {v : Nat} (hv : v < us.length) : (qvl cl us).getD v 0 = img (pw cl) (us.getD v 0) := by
  unfold qvl
  rw [List.getD_eq_getElem?_getD, List.getElem?_map, List.getD_eq_getElem?_getD, List.getElem?_eq_getElem hv]
  rfl
theorem QM_val (ns us : List Nat) (c : Nat) {v : Nat} (hv : v < us.length) : ((QM ns us).2.getD v 0).testBit c = true ↔ ∃ w, w < ns.length ∧ (us.getD v 0).testBit w = true ∧ (qcl ns us).getD w 0 = c := by
  unfold QM
  simp only
  rw [qvl_getD _ _ hv, img_pw_bit, qcl_length]
/-- a world is bisimilar to its class -/
theorem QM_bz {ns us : List Nat} (h : MdN ns us) (k : Nat) : ∀ {x : Nat}, x < ns.length → bz k (ns, us) (QM ns us) x ((qcl ns us).getD x 0) = true := by
  have hQ := QM_ok h
  have hat : ∀ {x : Nat}, x < ns.length → atm us (QM ns us).2 x ((qcl ns us).getD x 0) = true := by
    intro x hx
    unfold atm
    rw [List.all_eq_true]
    intro v hv
    rw [List.mem_range] at hv
    have hvl : v < us.length := by rw [h.l]; exact hv
    rw [beq_iff_eq, Bool.eq_iff_iff, QM_val ns us _ hvl]
    constructor
    · intro hb; exact ⟨x, hx, hb, rfl⟩
    · rintro ⟨w, hw, hb, hc⟩
      have h0 := bz_le h.r h.r (Nat.zero_le 16) hw hx ((qcl_eq h.r hw hx).1 hc)
      rw [bz_zero (ns, us) (ns, us) hw hx] at h0
      unfold atm at h0
      rw [List.all_eq_true] at h0
      have := h0 v (List.mem_range.2 hv)
      rw [beq_iff_eq] at this
      rw [← this]; exact hb
  induction k with
  | zero => intro x hx; rw [bz_zero (ns, us) (QM ns us) hx (by rw [QM_len]; exact qcl_ltn ns us hx)]; exact hat hx
  | succ k ih =>
    intro x hx
    rw [bz_succ (A := (ns, us)) h.r hQ.r k hx (by rw [QM_len]; exact qcl_ltn ns us hx)]
    refine ⟨hat hx, fun s hs hr => ?_, fun t ht hr => ?_⟩
    · exact ⟨_, by rw [QM_len]; exact qcl_ltn ns us hs, (QM_arrow ns us _ _).2 ⟨x, hx, rfl, s, hs, hr, rfl⟩, ih hs⟩
    · obtain ⟨w, hw, hc, v, hv, hwv, rfl⟩ := (QM_arrow ns us _ _).1 hr
      have hb := (qcl_eq h.r hw hx).1 hc
      rw [bz_steady h.r h.r 16 (Nat.le_refl _) hw hx, bz_succ (A := (ns, us)) (B := (ns, us)) h.r h.r 16 hw hx] at hb
      obtain ⟨-, f, -⟩ := hb
      obtain ⟨s, p, q, r⟩ := f v hv hwv
      exact ⟨s, p, q, by rw [(qcl_eq h.r hv p).2 r]; exact ih p⟩
theorem QM_tv {ns us : List Nat} (h : MdN ns us) (f : Fm) {x : Nat} (hx : x < ns.length) : (tv ns us f).testBit x = (tv (QM ns us).1 (QM ns us).2 f).testBit ((qcl ns us).getD x 0) :=
  bz_tv (A := (ns, us)) h.r (QM_ok h).r h.l (QM_ok h).l f hx (by rw [QM_len]; exact qcl_ltn ns us hx) (QM_bz h 16 hx)
theorem dvd_inj (key : Nat → Nat) (n : Nat) (h : ∀ x y, x < n → y < n → key x = key y → x = y) : dvd key n = (List.range n, n) := by
  induction n with
  | zero => rfl
  | succ n ih =>
    have ih := ih fun x y hx hy => h x y (by omega) (by omega)
    have hf : (List.range n).find? (fun y => decide (key y = key n)) = none := by
      rw [List.find?_eq_none]
      intro y hy
      rw [List.mem_range] at hy
      intro he
      have := h y n (by omega) (by omega) (of_decide_eq_true he)
      omega
    rw [dvd, hf, ih, List.range_succ]
/-- bisimilar classes are one -/
theorem QM_inj {ns us : List Nat} (h : MdN ns us) {c d : Nat} (hc : c < qn ns us) (hd : d < qn ns us) (hb : bz 16 (QM ns us) (QM ns us) c d = true) : c = d := by
  obtain ⟨x, hx, rfl⟩ := qcl_onto ns us hc
  obtain ⟨y, hy, rfl⟩ := qcl_onto ns us hd
  have hQ := (QM_ok h).r
  have hl := QM_len ns us
  rw [← hl] at hc hd
  rw [qcl_eq h.r hx hy]
  exact bz_trans (A := (ns, us)) (C := (ns, us)) h.r hQ h.r 16 hx hc hy (QM_bz h 16 hx) (bz_trans hQ hQ h.r 16 hc hd hy hb (bz_symm h.r hQ 16 hy hd (QM_bz h 16 hy)))
theorem bcl_inj {ns us : List Nat} (h : RelN ns) (hi : ∀ x y, x < ns.length → y < ns.length → bz 16 (ns, us) (ns, us) x y = true → x = y) : bcl ns us ns.length = (List.range ns.length, ns.length) := by
  refine dvd_inj _ _ fun x y hx hy he => hi x y hx hy ?_
  show ((bnd ns us ns us 16).getD x 0).testBit y = true
  rw [rel_row ns us h 16 hy hx, decide_eq_true_eq]
  exact he
theorem QM_bcl {ns us : List Nat} (h : MdN ns us) : bcl (QM ns us).1 (QM ns us).2 (QM ns us).1.length = (List.range (qn ns us), qn ns us) := by
  have := bcl_inj (us := (QM ns us).2) (QM_ok h).r fun x y hx hy hb => QM_inj h (by rw [← QM_len]; exact hx) (by rw [← QM_len]; exact hy) hb
  rw [QM_len] at this ⊢
  exact this
theorem QM_qcl {ns us : List Nat} (h : MdN ns us) : qcl (QM ns us).1 (QM ns us).2 = List.range (qn ns us) := by
  unfold qcl; rw [QM_bcl h]
theorem QM_qn {ns us : List Nat} (h : MdN ns us) : qn (QM ns us).1 (QM ns us).2 = qn ns us := by
  rw [qn_cnt, QM_bcl h]
theorem range_getD {n i : Nat} (h : i < n) : (List.range n).getD i 0 = i := by
  rw [List.getD_eq_getElem?_getD, List.getElem?_range h]; rfl
theorem img_range {n m : Nat} (h : m < 2 ^ n) : img (pw (List.range n)) m = m := by
  apply Nat.eq_of_testBit_eq
  intro j
  rw [Bool.eq_iff_iff, img_pw_bit, List.length_range]
  constructor
  · rintro ⟨v, hv, hm, he⟩
    rw [range_getD hv] at he
    rw [← he]; exact hm
  · intro hm
    exact ⟨j, bit_lt h hm, hm, range_getD (bit_lt h hm)⟩
theorem qrl_range {ns : List Nat} (h : RelN ns) : qrl (List.range ns.length) ns ns.length ns.length = ns := by
  apply List.ext_getElem (qrl_length _ _ _ _)
  intro i h1 h2
  have g1 : (qrl (List.range ns.length) ns ns.length ns.length)[i] = (qrl (List.range ns.length) ns ns.length ns.length).getD i 0 := by rw [List.getD_eq_getElem?_getD, List.getElem?_eq_getElem]; rfl
  have g2 : ns[i] = ns.getD i 0 := by rw [List.getD_eq_getElem?_getD, List.getElem?_eq_getElem]; rfl
  rw [g1, g2]
  apply Nat.eq_of_testBit_eq
  intro j
  rw [Bool.eq_iff_iff, qrl_bit _ _ _ fun w hw => by rw [range_getD hw]; exact hw]
  constructor
  · rintro ⟨w, hw, he, hb⟩
    rw [range_getD hw] at he
    subst he
    rwa [img_range (getD_lt h.2 w)] at hb
  · intro hb
    exact ⟨i, h2, range_getD h2, by rw [img_range (getD_lt h.2 i)]; exact hb⟩
theorem qvl_range {us : List Nat} {n : Nat} (h : ∀ x ∈ us, x < 2 ^ n) : qvl (List.range n) us = us := by
  unfold qvl
  conv => rhs; rw [← List.map_id us]
  exact List.map_congr_left fun x hx => img_range (h x hx)
/-- a quotient is its own quotient -/
theorem QM_again {ns us : List Nat} (h : MdN ns us) : QM (QM ns us).1 (QM ns us).2 = QM ns us := by
  have hQ := QM_ok h
  have hl := QM_len ns us
  show (qrl (qcl (QM ns us).1 (QM ns us).2) (QM ns us).1 (qn (QM ns us).1 (QM ns us).2) (QM ns us).1.length, qvl (qcl (QM ns us).1 (QM ns us).2) (QM ns us).2) = QM ns us
  rw [QM_qcl h, QM_qn h, ← hl, qrl_range hQ.r, qvl_range hQ.b]
end Go.Proofs.Ytkllbehdmlbhaaa

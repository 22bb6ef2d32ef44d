/- Heyting algebras: plain law. What an order builds is a Heyting algebra; filters; classes of a filter. -/
import Derived.Test.YtgkogfjifcfkoaaGreatY14
namespace Go.Proofs.YtgkogfjifcfkoaaGreat
open Go.RowKit
set_option linter.unusedVariables false
set_option linter.unusedSimpArgs false
/-- an element is below another one -/
def Le (ns : List Nat) (x y : Nat) : Prop := (ns.getD x 0).testBit y = true
theorem lw_spec {ns : List Nat} {m x : Nat} (h : lw ns m = some x) : x < ns.length ∧ m.testBit x = true ∧ ∀ y, m.testBit y = true → Le ns x y := by
  unfold lw at h
  have h1 := List.mem_range.1 (List.mem_of_find?_eq_some h)
  have h2 := List.find?_some h
  rw [Bool.and_eq_true, decide_eq_true_eq, andnot_zero] at h2
  exact ⟨h1, h2.1, h2.2⟩
theorem lwI_spec {ns : List Nat} {m : Nat} (h : 0 ≤ lwI ns m) : ∃ x : Nat, lwI ns m = x ∧ x < ns.length ∧ m.testBit x = true ∧ ∀ y, m.testBit y = true → Le ns x y := by
  unfold lwI at h ⊢
  cases hl : lw ns m with
  | none => rw [hl] at h; simp only at h; omega
  | some x => exact ⟨x, rfl, lw_spec hl⟩
theorem lwI_ok {ns : List Nat} {m x : Nat} (hx : x < ns.length) (hb : m.testBit x = true) (hh : ∀ y, m.testBit y = true → Le ns x y) : 0 ≤ lwI ns m := by
  unfold lwI
  cases hl : lw ns m with
  | some y => simp only; omega
  | none =>
    unfold lw at hl
    rw [List.find?_eq_none] at hl
    have := hl x (List.mem_range.2 hx)
    rw [Bool.and_eq_true, decide_eq_true_eq, andnot_zero] at this
    exact absurd ⟨hb, hh⟩ this
theorem Le.lt {ns : List Nat} (hr : RelM ns) {x y : Nat} (h : Le ns x y) : y < ns.length := bit_lt (getD_lt hr.2 x) h
theorem le_inv {ns : List Nat} {x y : Nat} (hx : x < ns.length) : Le (inv ns) x y ↔ y < ns.length ∧ Le ns y x := by
  unfold Le
  rw [inv_bit ns hx, Bool.and_eq_true, decide_eq_true_eq]
theorem par_refl {ns : List Nat} (h : par ns = true) {x : Nat} (hx : x < ns.length) : Le ns x x := (of_decide_eq_true h x hx).1
theorem par_trans {ns : List Nat} (hr : RelM ns) (h : par ns = true) {x y z : Nat} (hx : x < ns.length) (h1 : Le ns x y) (h2 : Le ns y z) : Le ns x z := by
  have he := (of_decide_eq_true h x hx).2.1
  unfold Le
  rw [← he]
  unfold img
  rw [imgTo_bit]
  exact ⟨y, h1.lt hr, h1, h2⟩
theorem par_anti {ns : List Nat} (h : par ns = true) {x y : Nat} (hx : x < ns.length) (hy : y < ns.length) (h1 : Le ns x y) (h2 : Le ns y x) : x = y := by
  unfold Le at h1 h2
  rcases Nat.lt_trichotomy x y with hlt | he | hlt
  · have := (of_decide_eq_true h y hy).2.2 x hlt
    rw [h1, h2] at this; cases this
  · exact he
  · have := (of_decide_eq_true h x hx).2.2 y hlt
    rw [h1, h2] at this; cases this
/-- what a built algebra has -/
structure HA (ns : List Nat) : Prop where
  r : RelM ns
  n1 : 1 ≤ ns.length
  rf : ∀ x, x < ns.length → Le ns x x
  tr : ∀ x y z, x < ns.length → Le ns x y → Le ns y z → Le ns x z
  an : ∀ x y, x < ns.length → y < ns.length → Le ns x y → Le ns y x → x = y
  A : ∀ x y, x < ns.length → y < ns.length → ∃ a : Nat, fA ns x y = a ∧ a < ns.length ∧ ∀ z, z < ns.length → (Le ns z a ↔ Le ns z x ∧ Le ns z y)
  O : ∀ x y, x < ns.length → y < ns.length → ∃ a : Nat, fO ns x y = a ∧ a < ns.length ∧ ∀ z, z < ns.length → (Le ns a z ↔ Le ns x z ∧ Le ns y z)
  I : ∀ x y, x < ns.length → y < ns.length → ∃ a : Nat, fI ns x y = a ∧ a < ns.length ∧ ∀ z, z < ns.length → (Le ns z a ↔ Le ns (fA ns z x).toNat y)
  t : ∃ t : Nat, topI ns = t ∧ t < ns.length ∧ ∀ x, x < ns.length → Le ns x t
  b : ∃ b : Nat, botI ns = b ∧ b < ns.length ∧ ∀ x, x < ns.length → Le ns b x
theorem fA_spec {ns : List Nat} (hr : RelM ns) (hp : par ns = true) {x y : Nat} (hx : x < ns.length) (hy : y < ns.length) (h : 0 ≤ fA ns x y) :
    ∃ a : Nat, fA ns x y = a ∧ a < ns.length ∧ ∀ z, z < ns.length → (Le ns z a ↔ Le ns z x ∧ Le ns z y) := by
  obtain ⟨a, e, h1, h2, h3⟩ := lwI_spec h
  rw [inv_length] at h1
  rw [Nat.testBit_and, Bool.and_eq_true] at h2
  have hax := ((le_inv hx).1 h2.1).2
  have hay := ((le_inv hy).1 h2.2).2
  refine ⟨a, e, h1, fun z hz => ⟨fun hza => ⟨par_trans hr hp hz hza hax, par_trans hr hp hz hza hay⟩, fun ⟨hzx, hzy⟩ => ?_⟩⟩
  have := h3 z (by rw [Nat.testBit_and, Bool.and_eq_true]; exact ⟨(le_inv hx).2 ⟨hz, hzx⟩, (le_inv hy).2 ⟨hz, hzy⟩⟩)
  exact ((le_inv h1).1 this).2
theorem fO_spec {ns : List Nat} (hr : RelM ns) (hp : par ns = true) {x y : Nat} (hx : x < ns.length) (hy : y < ns.length) (h : 0 ≤ fO ns x y) :
    ∃ a : Nat, fO ns x y = a ∧ a < ns.length ∧ ∀ z, z < ns.length → (Le ns a z ↔ Le ns x z ∧ Le ns y z) := by
  obtain ⟨a, e, h1, h2, h3⟩ := lwI_spec h
  rw [Nat.testBit_and, Bool.and_eq_true] at h2
  refine ⟨a, e, h1, fun z hz => ⟨fun hza => ⟨par_trans hr hp hx h2.1 hza, par_trans hr hp hy h2.2 hza⟩, fun ⟨hzx, hzy⟩ => ?_⟩⟩
  exact h3 z (by rw [Nat.testBit_and, Bool.and_eq_true]; exact ⟨hzx, hzy⟩)
/-- the least element, where all meets are -/
theorem bot_ok {ns : List Nat} (hr : RelM ns) (hp : par ns = true) (hn : ns.length ≠ 0) (hA : ∀ x, x < ns.length → ∀ y, y < ns.length → 0 ≤ fA ns x y) : 0 ≤ botI ns := by
  have key : ∀ k, 1 ≤ k → k ≤ ns.length → ∃ a, a < ns.length ∧ ∀ y, y < k → Le ns a y := by
    intro k hk
    induction k with
    | zero => omega
    | succ k ih =>
      intro hk2
      rcases Nat.eq_zero_or_pos k with h0 | h0
      · subst h0
        exact ⟨0, by omega, fun y hy => by obtain rfl : y = 0 := by omega
                                           exact par_refl hp (by omega)⟩
      · obtain ⟨a, ha, hh⟩ := ih h0 (by omega)
        obtain ⟨c, -, hc, hcc⟩ := fA_spec hr hp ha (show k < ns.length by omega) (hA a ha k (by omega))
        have := (hcc c hc).1 (par_refl hp hc)
        refine ⟨c, hc, fun y hy => ?_⟩
        rcases Nat.lt_or_ge y k with h1 | h1
        · exact par_trans hr hp hc this.1 (hh y h1)
        · obtain rfl : y = k := by omega
          exact this.2
  obtain ⟨a, ha, hh⟩ := key ns.length (by omega) (Nat.le_refl _)
  refine lwI_ok ha (by rw [Nat.testBit_two_pow_sub_one, decide_eq_true ha]) fun y hy => hh y ?_
  rw [Nat.testBit_two_pow_sub_one] at hy
  exact of_decide_eq_true hy
theorem top_ok {ns : List Nat} (hr : RelM ns) (hp : par ns = true) (hn : ns.length ≠ 0) (hO : ∀ x, x < ns.length → ∀ y, y < ns.length → 0 ≤ fO ns x y) : 0 ≤ topI ns := by
  have key : ∀ k, 1 ≤ k → k ≤ ns.length → ∃ a, a < ns.length ∧ ∀ y, y < k → Le ns y a := by
    intro k hk
    induction k with
    | zero => omega
    | succ k ih =>
      intro hk2
      rcases Nat.eq_zero_or_pos k with h0 | h0
      · subst h0
        exact ⟨0, by omega, fun y hy => by obtain rfl : y = 0 := by omega
                                           exact par_refl hp (by omega)⟩
      · obtain ⟨a, ha, hh⟩ := ih h0 (by omega)
        obtain ⟨c, -, hc, hcc⟩ := fO_spec hr hp ha (show k < ns.length by omega) (hO a ha k (by omega))
        have := (hcc c hc).1 (par_refl hp hc)
        refine ⟨c, hc, fun y hy => ?_⟩
        rcases Nat.lt_or_ge y k with h1 | h1
        · exact par_trans hr hp (by omega) (hh y h1) this.1
        · obtain rfl : y = k := by omega
          exact this.2
  obtain ⟨a, ha, hh⟩ := key ns.length (by omega) (Nat.le_refl _)
  refine lwI_ok (by rw [inv_length]; exact ha) (by rw [Nat.testBit_two_pow_sub_one, decide_eq_true ha]) fun y hy => ?_
  rw [Nat.testBit_two_pow_sub_one] at hy
  have hy' := of_decide_eq_true hy
  exact (le_inv ha).2 ⟨hy', hh y hy'⟩
/-- what the program asks of an order -/
def hpOk (ns : List Nat) : Prop := ns.length ≠ 0 ∧ par ns = true ∧ (∀ x, x < ns.length → ∀ y, y < ns.length → 0 ≤ fA ns x y ∧ 0 ≤ fO ns x y) ∧ ∀ x, x < ns.length → ∀ y, y < ns.length → 0 ≤ fI ns x y
theorem hpOk_iff {ns : List Nat} (hr : RelM ns) : hpOk ns ↔ hbOk ns := by
  constructor
  · rintro ⟨h1, h2, h3, h4⟩
    exact ⟨h1, h2, bot_ok hr h2 h1 fun x hx y hy => (h3 x hx y hy).1, top_ok hr h2 h1 fun x hx y hy => (h3 x hx y hy).2, h3, h4⟩
  · rintro ⟨h1, h2, -, -, h3, h4⟩
    exact ⟨h1, h2, h3, h4⟩
theorem hb_HA {ns : List Nat} (hr : RelM ns) (h : hbOk ns) : HA ns := by
  obtain ⟨h1, hp, hb, ht, h3, h4⟩ := h
  have SA := fun x y hx hy => fA_spec hr hp (x := x) (y := y) hx hy (h3 x hx y hy).1
  refine ⟨hr, by omega, fun x hx => par_refl hp hx, fun x y z hx => par_trans hr hp hx, fun x y => par_anti hp, SA, fun x y hx hy => fO_spec hr hp hx hy (h3 x hx y hy).2, fun x y hx hy => ?_, ?_, ?_⟩
  · obtain ⟨a, e, q1, q2, q3⟩ := lwI_spec (h4 x hx y hy)
    rw [inv_length] at q1
    have hc : ∀ z, (cnd ns x y).testBit z = true ↔ z < ns.length ∧ Le ns (fA ns z x).toNat y := fun z => by
      unfold cnd Le
      rw [msk_testBit, Bool.and_eq_true, decide_eq_true_eq]
    refine ⟨a, e, q1, fun z hz => ⟨fun hza => ?_, fun hzx => ?_⟩⟩
    · obtain ⟨u, hu, hul, huu⟩ := SA z x hz hx
      obtain ⟨v, hv, hvl, hvv⟩ := SA a x q1 hx
      have ha := ((hc a).1 q2).2
      rw [hu, Int.toNat_natCast]
      rw [hv, Int.toNat_natCast] at ha
      have huz := (huu u hul).1 (par_refl hp hul)
      have huv := (hvv u hul).2 ⟨par_trans hr hp hul huz.1 hza, huz.2⟩
      exact par_trans hr hp hul huv ha
    · have := q3 z ((hc z).2 ⟨hz, hzx⟩)
      exact ((le_inv q1).1 this).2
  · obtain ⟨a, e, q1, q2, q3⟩ := lwI_spec ht
    rw [inv_length] at q1
    refine ⟨a, e, q1, fun x hx => ?_⟩
    exact ((le_inv q1).1 (q3 x (by rw [Nat.testBit_two_pow_sub_one, decide_eq_true hx]))).2
  · obtain ⟨a, e, q1, q2, q3⟩ := lwI_spec hb
    exact ⟨a, e, q1, fun x hx => q3 x (by rw [Nat.testBit_two_pow_sub_one, decide_eq_true hx])⟩
theorem fA_comm (ns : List Nat) (x y : Nat) : fA ns x y = fA ns y x := by unfold fA; rw [Nat.and_comm]
/-- a filter, as the reference asks -/
def isFl (ns : List Nat) (m : Nat) : Prop := m.testBit (topI ns).toNat = true ∧ img ns m = m ∧ ∀ x y, m.testBit x = true → m.testBit y = true → y < x → m.testBit (fA ns x y).toNat = true
/-- the meet of some elements -/
def fld (ns : List Nat) (x : Nat) : List Nat → Nat
  | [] => x
  | y :: ys => fld ns (fA ns x y).toNat ys
theorem fld_spec {ns : List Nat} (h : HA ns) (ys : List Nat) (hy : ∀ y ∈ ys, y < ns.length) (x : Nat) (hx : x < ns.length) :
    fld ns x ys < ns.length ∧ ∀ z, z < ns.length → (Le ns z (fld ns x ys) ↔ Le ns z x ∧ ∀ y ∈ ys, Le ns z y) := by
  induction ys generalizing x with
  | nil => exact ⟨hx, fun z hz => ⟨fun h => ⟨h, fun y hy => by cases hy⟩, fun h => h.1⟩⟩
  | cons y ys ih =>
    obtain ⟨a, ha, hal, haa⟩ := h.A x y hx (hy y (.head _))
    have := ih (fun y' hy' => hy y' (.tail _ hy')) a hal
    rw [fld, ha, Int.toNat_natCast]
    refine ⟨this.1, fun z hz => ?_⟩
    rw [this.2 z hz, haa z hz]
    constructor
    · rintro ⟨⟨h1, h2⟩, h3⟩
      exact ⟨h1, fun y' hy' => by cases hy' with
        | head => exact h2
        | tail _ hm => exact h3 y' hm⟩
    · rintro ⟨h1, h2⟩
      exact ⟨⟨h1, h2 y (.head _)⟩, fun y' hy' => h2 y' (.tail _ hy')⟩
theorem fld_in {ns : List Nat} {m : Nat} (hm : ∀ x y, m.testBit x = true → m.testBit y = true → m.testBit (fA ns x y).toNat = true) (ys : List Nat) (hy : ∀ y ∈ ys, m.testBit y = true) (x : Nat) (hx : m.testBit x = true) : m.testBit (fld ns x ys) = true := by
  induction ys generalizing x with
  | nil => exact hx
  | cons y ys ih => exact ih (fun y' hy' => hy y' (.tail _ hy')) _ (hm x y hx (hy y (.head _)))
/-- the members of a mask -/
def mb (m n : Nat) : List Nat := (List.range n).filter m.testBit
theorem mb_iff {m n x : Nat} : x ∈ mb m n ↔ x < n ∧ m.testBit x = true := by unfold mb; rw [List.mem_filter, List.mem_range]
/-- the least filter with some elements -/
def flt (ns : List Nat) (m : Nat) : Nat := ns.getD (fld ns (topI ns).toNat (mb m ns.length)) 0
/-- the program's filters are the reference's -/
theorem flt_iff {ns : List Nat} (h : HA ns) {m : Nat} (hm : m < 2 ^ ns.length) : flt ns m = m ↔ isFl ns m := by
  obtain ⟨t, ht, htl, htt⟩ := h.t
  have HM : ∀ y ∈ mb m ns.length, y < ns.length := fun y hy => (mb_iff.1 hy).1
  obtain ⟨q1, q2⟩ := fld_spec h (mb m ns.length) HM t htl
  unfold flt isFl
  rw [ht, Int.toNat_natCast]
  constructor
  · intro he
    have hb : ∀ x, m.testBit x = true ↔ Le ns (fld ns t (mb m ns.length)) x := fun x => by unfold Le; rw [he]
    refine ⟨(hb t).2 (htt _ q1), ?_, fun x y hx hy _ => ?_⟩
    · refine msk_ext ns.length (imgTo_lt h.r.2 _ _) hm fun i hi => ?_
      rw [Bool.eq_iff_iff]
      unfold img
      rw [imgTo_bit]
      constructor
      · rintro ⟨x, hx, hmx, hxi⟩
        exact (hb i).2 (h.tr _ _ _ q1 ((hb x).1 hmx) hxi)
      · intro hmi
        exact ⟨i, hi, hmi, h.rf i hi⟩
    · have hxl := bit_lt hm hx
      have hyl := bit_lt hm hy
      obtain ⟨a, ha, hal, haa⟩ := h.A x y hxl hyl
      rw [ha, Int.toNat_natCast]
      exact (hb a).2 ((haa _ q1).2 ⟨(hb x).1 hx, (hb y).1 hy⟩)
  · rintro ⟨h1, h2, h3⟩
    have hup : ∀ x z, m.testBit x = true → Le ns x z → m.testBit z = true := fun x z hx hz => by
      rw [← h2]
      unfold img
      rw [imgTo_bit]
      exact ⟨x, bit_lt hm hx, hx, hz⟩
    have hAA : ∀ x y, m.testBit x = true → m.testBit y = true → m.testBit (fA ns x y).toNat = true := fun x y hx hy => by
      rcases Nat.lt_trichotomy x y with hlt | he | hlt
      · rw [fA_comm]; exact h3 y x hy hx hlt
      · subst he
        have hxl := bit_lt hm hx
        obtain ⟨a, ha, hal, haa⟩ := h.A x x hxl hxl
        have e1 := ((haa a hal).1 (h.rf a hal)).1
        have e2 := (haa x hxl).2 ⟨h.rf x hxl, h.rf x hxl⟩
        rw [ha, Int.toNat_natCast, h.an a x hal hxl e1 e2]
        exact hx
      · exact h3 x y hx hy hlt
    have hin := fld_in hAA (mb m ns.length) (fun y hy => (mb_iff.1 hy).2) t h1
    refine msk_ext ns.length (getD_lt h.r.2 _) hm fun i hi => ?_
    rw [Bool.eq_iff_iff]
    constructor
    · intro hb
      exact hup _ i hin hb
    · intro hmi
      exact ((q2 _ q1).1 (h.rf _ q1)).2 i (mb_iff.2 ⟨hi, hmi⟩)
/-- two elements are in one class -/
def rlt (ns : List Nat) (m x y : Nat) : Bool := m.testBit (fI ns x y).toNat && m.testBit (fI ns y x).toNat
/-- the classes of a filter, as masks -/
def rlM (ns : List Nat) (m : Nat) : List Nat := lnk ns.length ns.length (rlt ns m)
theorem fl_up {ns : List Nat} {m : Nat} (hm : m < 2 ^ ns.length) (hf : isFl ns m) {x z : Nat} (hx : m.testBit x = true) (hz : Le ns x z) : m.testBit z = true := by
  rw [← hf.2.1]
  unfold img
  rw [imgTo_bit]
  exact ⟨x, bit_lt hm hx, hx, hz⟩
theorem fl_meet {ns : List Nat} (h : HA ns) {m : Nat} (hm : m < 2 ^ ns.length) (hf : isFl ns m) {x y : Nat} (hx : m.testBit x = true) (hy : m.testBit y = true) : m.testBit (fA ns x y).toNat = true := by
  rcases Nat.lt_trichotomy x y with hlt | he | hlt
  · rw [fA_comm]; exact hf.2.2 y x hy hx hlt
  · subst he
    have hxl := bit_lt hm hx
    obtain ⟨a, ha, hal, haa⟩ := h.A x x hxl hxl
    have e1 := ((haa a hal).1 (h.rf a hal)).1
    have e2 := (haa x hxl).2 ⟨h.rf x hxl, h.rf x hxl⟩
    rw [ha, Int.toNat_natCast, h.an a x hal hxl e1 e2]
    exact hx
  · exact hf.2.2 x y hx hy hlt
/-- implications compose -/
theorem imp_comp {ns : List Nat} (h : HA ns) {m : Nat} (hm : m < 2 ^ ns.length) (hf : isFl ns m) {x y z : Nat} (hx : x < ns.length) (hy : y < ns.length) (hz : z < ns.length)
    (h1 : m.testBit (fI ns x y).toNat = true) (h2 : m.testBit (fI ns y z).toNat = true) : m.testBit (fI ns x z).toNat = true := by
  obtain ⟨p, ep, pl, pp⟩ := h.I x y hx hy
  obtain ⟨q, eq, ql, qq⟩ := h.I y z hy hz
  obtain ⟨r, er, rl, rr⟩ := h.I x z hx hz
  rw [ep, Int.toNat_natCast] at h1
  rw [eq, Int.toNat_natCast] at h2
  rw [er, Int.toNat_natCast]
  have h3 := fl_meet h hm hf h1 h2
  obtain ⟨s, es, sl, ss⟩ := h.A p q pl ql
  rw [es, Int.toNat_natCast] at h3
  refine fl_up hm hf h3 ((rr s sl).2 ?_)
  obtain ⟨u, eu, ul, uu⟩ := h.A s x sl hx
  rw [eu, Int.toNat_natCast]
  have hu := (uu u ul).1 (h.rf u ul)
  have hs := (ss s sl).1 (h.rf s sl)
  have hup := h.tr u s p ul hu.1 hs.1
  have huq := h.tr u s q ul hu.1 hs.2
  have huy : Le ns u y := by
    have h5 := (pp u ul).1 hup
    obtain ⟨v, ev, vl, vv⟩ := h.A u x ul hx
    rw [ev, Int.toNat_natCast] at h5
    exact h.tr u v y ul ((vv u ul).2 ⟨h.rf u ul, hu.2⟩) h5
  have h5 := (qq u ul).1 huq
  obtain ⟨v, ev, vl, vv⟩ := h.A u y ul hy
  rw [ev, Int.toNat_natCast] at h5
  exact h.tr u v z ul ((vv u ul).2 ⟨h.rf u ul, huy⟩) h5
theorem imp_self {ns : List Nat} (h : HA ns) {m : Nat} (hm : m < 2 ^ ns.length) (hf : isFl ns m) {x : Nat} (hx : x < ns.length) : m.testBit (fI ns x x).toNat = true := by
  obtain ⟨t, ht, htl, htt⟩ := h.t
  obtain ⟨p, ep, pl, pp⟩ := h.I x x hx hx
  have h1 := hf.1
  rw [ht, Int.toNat_natCast] at h1
  rw [ep, Int.toNat_natCast]
  refine fl_up hm hf h1 ((pp t htl).2 ?_)
  obtain ⟨u, eu, ul, uu⟩ := h.A t x htl hx
  rw [eu, Int.toNat_natCast]
  exact ((uu u ul).1 (h.rf u ul)).2
theorem rlM_length (ns : List Nat) (m : Nat) : (rlM ns m).length = ns.length := lnk_length _ _ _
theorem rlM_lt (ns : List Nat) (m : Nat) : ∀ x ∈ rlM ns m, x < 2 ^ ns.length := lnk_lt _ _ _
/-- equal masks: one class -/
theorem rlM_eq {ns : List Nat} (h : HA ns) {m : Nat} (hm : m < 2 ^ ns.length) (hf : isFl ns m) {x y : Nat} (hx : x < ns.length) (hy : y < ns.length) : (rlM ns m).getD x 0 = (rlM ns m).getD y 0 ↔ rlt ns m y x = true := by
  unfold rlM
  rw [lnk_getD _ hx, lnk_getD _ hy]
  constructor
  · intro he
    have : (msk (rlt ns m x) ns.length).testBit x = (msk (rlt ns m y) ns.length).testBit x := by rw [he]
    rw [msk_testBit, msk_testBit, decide_eq_true hx, Bool.true_and, Bool.true_and] at this
    rw [← this]
    unfold rlt
    rw [imp_self h hm hf hx]; rfl
  · intro hr
    unfold rlt at hr
    rw [Bool.and_eq_true] at hr
    refine msk_congr _ _ _ fun z hz => ?_
    unfold rlt
    rw [Bool.eq_iff_iff, Bool.and_eq_true, Bool.and_eq_true]
    constructor
    · rintro ⟨h1, h2⟩
      exact ⟨imp_comp h hm hf hy hx hz hr.1 h1, imp_comp h hm hf hz hx hy h2 hr.2⟩
    · rintro ⟨h1, h2⟩
      exact ⟨imp_comp h hm hf hx hy hz hr.2 h1, imp_comp h hm hf hz hy hx h2 hr.1⟩
/-- the classes of a filter -/
def ccl (ns : List Nat) (m x : Nat) : List Nat × Nat := dvd (fun y => (rlM ns m).getD y 0) x
end Go.Proofs.YtgkogfjifcfkoaaGreat

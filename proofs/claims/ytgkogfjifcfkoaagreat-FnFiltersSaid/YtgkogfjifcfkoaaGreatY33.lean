/- Plain law of chapters 18 and 19: when an order is that of a Heyting algebra; when three tables are one; upsets; chains; other numbers. No program in sight. -/
import Derived.Test.YtgkogfjifcfkoaaGreatY32
import Derived.Test.YtgkogfjifcfkoaaGreatY09
namespace Go.Proofs.YtgkogfjifcfkoaaGreat
open Go.RowKit
set_option linter.unusedVariables false
set_option linter.unusedSimpArgs false
/-- an order with meets, joins and implications -/
structure Hx (ns : List Nat) : Prop where
  r : RelM ns
  n1 : 1 ≤ ns.length
  rf : ∀ x, x < ns.length → Le ns x x
  tr : ∀ x y z, x < ns.length → Le ns x y → Le ns y z → Le ns x z
  an : ∀ x y, x < ns.length → y < ns.length → Le ns x y → Le ns y x → x = y
  A : ∀ x y, x < ns.length → y < ns.length → ∃ a, a < ns.length ∧ ∀ z, z < ns.length → (Le ns z a ↔ Le ns z x ∧ Le ns z y)
  O : ∀ x y, x < ns.length → y < ns.length → ∃ a, a < ns.length ∧ ∀ z, z < ns.length → (Le ns a z ↔ Le ns x z ∧ Le ns y z)
  I : ∀ x y, x < ns.length → y < ns.length → ∃ a, a < ns.length ∧ ∀ z, z < ns.length → (Le ns z a ↔ ∀ u, u < ns.length → Le ns u z → Le ns u x → Le ns u y)
theorem Hx_par {ns : List Nat} (h : Hx ns) : par ns = true := by
  unfold par
  rw [decide_eq_true_eq]
  intro x hx
  unfold par1
  refine ⟨h.rf x hx, ?_, fun y hy => ?_⟩
  · refine msk_ext ns.length (imgTo_lt h.r.2 _ _) (getD_lt h.r.2 x) fun i hi => ?_
    rw [Bool.eq_iff_iff]
    unfold img
    rw [imgTo_bit]
    constructor
    · rintro ⟨y, hy, h1, h2⟩
      exact h.tr x y i hx h1 h2
    · intro h1
      exact ⟨i, hi, h1, h.rf i hi⟩
  · rw [Bool.eq_false_iff]
    intro hh
    rw [Bool.and_eq_true] at hh
    have := h.an x y hx (by omega) hh.1 hh.2
    omega
theorem Hx_fA {ns : List Nat} (h : Hx ns) {x y : Nat} (hx : x < ns.length) (hy : y < ns.length) : 0 ≤ fA ns x y := by
  obtain ⟨a, ha, hh⟩ := h.A x y hx hy
  have h1 := (hh a ha).1 (h.rf a ha)
  refine lwI_ok (x := a) (by rw [inv_length]; exact ha) ?_ fun z hz => ?_
  · rw [Nat.testBit_and, Bool.and_eq_true]
    exact ⟨(le_inv hx).2 ⟨ha, h1.1⟩, (le_inv hy).2 ⟨ha, h1.2⟩⟩
  · rw [Nat.testBit_and, Bool.and_eq_true] at hz
    have q1 := (le_inv hx).1 hz.1
    have q2 := (le_inv hy).1 hz.2
    exact (le_inv ha).2 ⟨q1.1, (hh z q1.1).2 ⟨q1.2, q2.2⟩⟩
theorem Hx_fO {ns : List Nat} (h : Hx ns) {x y : Nat} (hx : x < ns.length) (hy : y < ns.length) : 0 ≤ fO ns x y := by
  obtain ⟨a, ha, hh⟩ := h.O x y hx hy
  have h1 := (hh a ha).1 (h.rf a ha)
  refine lwI_ok (x := a) ha ?_ fun z hz => ?_
  · rw [Nat.testBit_and, Bool.and_eq_true]
    exact ⟨h1.1, h1.2⟩
  · rw [Nat.testBit_and, Bool.and_eq_true] at hz
    have hz1 : Le ns x z := hz.1
    exact (hh z (hz1.lt h.r)).2 ⟨hz.1, hz.2⟩
/-- below a meet -/
theorem le_meet {ns : List Nat} (hr : RelM ns) (hp : par ns = true) {z x y : Nat} (hz : z < ns.length) (hx : x < ns.length) (h0 : 0 ≤ fA ns z x) :
    Le ns (fA ns z x).toNat y ↔ ∀ u, u < ns.length → Le ns u z → Le ns u x → Le ns u y := by
  obtain ⟨p, ep, pl, pp⟩ := fA_spec hr hp hz hx h0
  rw [ep, Int.toNat_natCast]
  constructor
  · intro h u hu h1 h2
    exact par_trans hr hp hu ((pp u hu).2 ⟨h1, h2⟩) h
  · intro h
    have h1 := (pp p pl).1 (par_refl hp pl)
    exact h p pl h1.1 h1.2
theorem Hx_fI {ns : List Nat} (h : Hx ns) {x y : Nat} (hx : x < ns.length) (hy : y < ns.length) : 0 ≤ fI ns x y := by
  obtain ⟨a, ha, hh⟩ := h.I x y hx hy
  have hc : ∀ z, (cnd ns x y).testBit z = true ↔ z < ns.length ∧ Le ns (fA ns z x).toNat y := fun z => by
    unfold cnd Le
    rw [msk_testBit, Bool.and_eq_true, decide_eq_true_eq]
  refine lwI_ok (x := a) (by rw [inv_length]; exact ha) ?_ fun z hz => ?_
  · exact (hc a).2 ⟨ha, (le_meet h.r (Hx_par h) ha hx (Hx_fA h ha hx)).2 ((hh a ha).1 (h.rf a ha))⟩
  · have q := (hc z).1 hz
    exact (le_inv ha).2 ⟨q.1, (hh z q.1).2 ((le_meet h.r (Hx_par h) q.1 hx (Hx_fA h q.1 hx)).1 q.2)⟩
theorem Hx_ok {ns : List Nat} (h : Hx ns) : hbOk ns :=
  (hpOk_iff h.r).1 ⟨by have := h.n1; omega, Hx_par h, fun x hx y hy => ⟨Hx_fA h hx hy, Hx_fO h hx hy⟩, fun x hx y hy => Hx_fI h hx hy⟩
theorem Hx_HA {ns : List Nat} (h : Hx ns) : HA ns := hb_HA h.r (Hx_ok h)
theorem HA_meet {ns : List Nat} (h : HA ns) {z x y : Nat} (hz : z < ns.length) (hx : x < ns.length) :
    Le ns (fA ns z x).toNat y ↔ ∀ u, u < ns.length → Le ns u z → Le ns u x → Le ns u y := by
  obtain ⟨p, ep, pl, pp⟩ := h.A z x hz hx
  rw [ep, Int.toNat_natCast]
  constructor
  · intro hh u hu h1 h2
    exact h.tr _ _ _ hu ((pp u hu).2 ⟨h1, h2⟩) hh
  · intro hh
    have h1 := (pp p pl).1 (h.rf p pl)
    exact hh p pl h1.1 h1.2
theorem HA_Hx {ns : List Nat} (h : HA ns) : Hx ns where
  r := h.r
  n1 := h.n1
  rf := h.rf
  tr := h.tr
  an := h.an
  A := fun x y hx hy => by
    obtain ⟨a, -, h1, h2⟩ := h.A x y hx hy
    exact ⟨a, h1, h2⟩
  O := fun x y hx hy => by
    obtain ⟨a, -, h1, h2⟩ := h.O x y hx hy
    exact ⟨a, h1, h2⟩
  I := fun x y hx hy => by
    obtain ⟨a, -, h1, h2⟩ := h.I x y hx hy
    exact ⟨a, h1, fun z hz => (h2 z hz).trans (HA_meet h hz hx)⟩
/-- other numbers for the elements -/
theorem Hx_ren {ns ms : List Nat} (h : Hx ns) (hl : ms.length = ns.length) (hr : RelM ms) (f : Nat → Nat) (hf : ∀ i, i < ns.length → f i < ns.length)
    (hs : ∀ j, j < ns.length → ∃ i, i < ns.length ∧ f i = j) (hi : ∀ i j, i < ns.length → j < ns.length → f i = f j → i = j)
    (hb : ∀ i j, i < ns.length → j < ns.length → (Le ms i j ↔ Le ns (f i) (f j))) : Hx ms where
  r := hr
  n1 := by rw [hl]; exact h.n1
  rf := fun x hx => by rw [hl] at hx; exact (hb x x hx hx).2 (h.rf _ (hf x hx))
  tr := fun x y z hx h1 h2 => by
    have hy := h1.lt hr
    have hz := h2.lt hr
    rw [hl] at hx hy hz
    exact (hb x z hx hz).2 (h.tr _ _ _ (hf x hx) ((hb x y hx hy).1 h1) ((hb y z hy hz).1 h2))
  an := fun x y hx hy h1 h2 => by
    rw [hl] at hx hy
    exact hi x y hx hy (h.an _ _ (hf x hx) (hf y hy) ((hb x y hx hy).1 h1) ((hb y x hy hx).1 h2))
  A := fun x y hx hy => by
    rw [hl] at hx hy
    obtain ⟨a, ha, hh⟩ := h.A _ _ (hf x hx) (hf y hy)
    obtain ⟨i, hil, rfl⟩ := hs a ha
    refine ⟨i, by rw [hl]; exact hil, fun z hz => ?_⟩
    rw [hl] at hz
    rw [hb z i hz hil, hb z x hz hx, hb z y hz hy]
    exact hh _ (hf z hz)
  O := fun x y hx hy => by
    rw [hl] at hx hy
    obtain ⟨a, ha, hh⟩ := h.O _ _ (hf x hx) (hf y hy)
    obtain ⟨i, hil, rfl⟩ := hs a ha
    refine ⟨i, by rw [hl]; exact hil, fun z hz => ?_⟩
    rw [hl] at hz
    rw [hb i z hil hz, hb x z hx hz, hb y z hy hz]
    exact hh _ (hf z hz)
  I := fun x y hx hy => by
    rw [hl] at hx hy
    obtain ⟨a, ha, hh⟩ := h.I _ _ (hf x hx) (hf y hy)
    obtain ⟨i, hil, rfl⟩ := hs a ha
    refine ⟨i, by rw [hl]; exact hil, fun z hz => ?_⟩
    rw [hl] at hz
    rw [hb z i hz hil, hh _ (hf z hz)]
    constructor
    · intro q u hu h1 h2
      rw [hl] at hu
      exact (hb u y hu hy).2 (q _ (hf u hu) ((hb u z hu hz).1 h1) ((hb u x hu hx).1 h2))
    · intro q v hv h1 h2
      obtain ⟨u, hu, rfl⟩ := hs v hv
      exact (hb u y hu hy).1 (q u (by rw [hl]; exact hu) ((hb u z hu hz).2 h1) ((hb u x hu hx).2 h2))
/-- the order of a table -/
theorem le_ord {A : List (List Nat)} {x y : Nat} (hx : x < A.length) : Le (ordH A) x y ↔ y < A.length ∧ ent A x y = x := by
  unfold Le
  rw [ordH_getD A hx, msk_testBit, Bool.and_eq_true, decide_eq_true_eq, decide_eq_true_eq]
theorem tab_eq {n : Nat} {f : Nat → Nat → Int} {A : List (List Nat)} (hT : TabN n A) (h : ∀ x y, x < n → y < n → f x y = ((ent A x y : Nat) : Int)) : lil A = tabI f n n := by
  apply List.ext_getElem
  · rw [lil_length, tabI_length, hT.l]
  · intro i h1 h2
    rw [lil_get, tabI_get]
    have hi : i < n := by rw [tabI_length] at h2; exact h2
    have hi' : i < A.length := by rw [hT.l]; exact hi
    have hm := hT.r _ (List.getElem_mem hi')
    apply List.ext_getElem
    · rw [li_length, rowI_length, hm.1]
    · intro j h3 h4
      rw [li_get, rowI_get]
      have hj : j < n := by rw [rowI_length] at h4; exact h4
      rw [h i j hi hj]
      unfold ent
      rw [List.getD_eq_getElem?_getD (l := A), List.getElem?_eq_getElem hi']
      rfl
theorem tbH_of {n : Nat} {A : List (List Nat)} (hT : TabN n A) : tbH n (lil A) = true := by
  unfold tbH
  rw [Bool.and_eq_true, decide_eq_true_eq, List.all_eq_true]
  refine ⟨by rw [lil_length, hT.l], fun r hr => ?_⟩
  unfold lil at hr
  obtain ⟨r', hr', rfl⟩ := List.mem_map.1 hr
  obtain ⟨h1, h2⟩ := hT.r r' hr'
  unfold rowOk
  rw [Bool.and_eq_true, decide_eq_true_eq, List.all_eq_true]
  refine ⟨by rw [li_length, h1], fun x hx => ?_⟩
  unfold li at hx
  obtain ⟨y, hy, rfl⟩ := List.mem_map.1 hx
  rw [inR_iff]
  have := h2 y hy
  omega
theorem glb_one {ns : List Nat} (h : Hx ns) {p q : Nat} (hp : p < ns.length) (hq : q < ns.length) {P : Nat → Prop} (h1 : ∀ z, z < ns.length → (Le ns z p ↔ P z)) (h2 : ∀ z, z < ns.length → (Le ns z q ↔ P z)) : p = q :=
  h.an p q hp hq ((h2 p hp).2 ((h1 p hp).1 (h.rf p hp))) ((h1 q hq).2 ((h2 q hq).1 (h.rf q hq)))
theorem lub_one {ns : List Nat} (h : Hx ns) {p q : Nat} (hp : p < ns.length) (hq : q < ns.length) {P : Nat → Prop} (h1 : ∀ z, z < ns.length → (Le ns p z ↔ P z)) (h2 : ∀ z, z < ns.length → (Le ns q z ↔ P z)) : p = q :=
  h.an p q hp hq ((h1 q hq).2 ((h2 q hq).1 (h.rf q hq))) ((h2 p hp).2 ((h1 p hp).1 (h.rf p hp)))
/-- three tables with what a Heyting algebra has -/
structure Alg (A O I : List (List Nat)) (b t : Nat) : Prop where
  n1 : 1 ≤ A.length
  n30 : A.length ≤ 30
  tA : TabN A.length A
  tO : TabN A.length O
  tI : TabN A.length I
  bl : b < A.length
  tl : t < A.length
  rf : ∀ x, x < A.length → ent A x x = x
  tr : ∀ x y z, x < A.length → y < A.length → z < A.length → ent A x y = x → ent A y z = y → ent A x z = x
  an : ∀ x y, x < A.length → y < A.length → ent A x y = x → ent A y x = y → x = y
  hA : ∀ x y z, x < A.length → y < A.length → z < A.length → (ent A z (ent A x y) = z ↔ ent A z x = z ∧ ent A z y = z)
  hO : ∀ x y z, x < A.length → y < A.length → z < A.length → (ent A (ent O x y) z = ent O x y ↔ ent A x z = x ∧ ent A y z = y)
  hI : ∀ x y z, x < A.length → y < A.length → z < A.length → (ent A z (ent I x y) = z ↔ ent A (ent A z x) y = ent A z x)
  hb : ∀ x, x < A.length → ent A b x = b
  ht : ∀ x, x < A.length → ent A x t = x
theorem Alg_Hx {A O I : List (List Nat)} {b t : Nat} (h : Alg A O I b t) : Hx (ordH A) := by
  have hl := ordH_length A
  have EA := fun x y (hx : x < A.length) (hy : y < A.length) => h.tA.ent_lt hx hy
  have EO := fun x y (hx : x < A.length) (hy : y < A.length) => h.tO.ent_lt hx hy
  have EI := fun x y (hx : x < A.length) (hy : y < A.length) => h.tI.ent_lt hx hy
  refine ⟨ordH_rel h.n30, by rw [hl]; exact h.n1, fun x hx => ?_, fun x y z hx h1 h2 => ?_, fun x y hx hy h1 h2 => ?_, fun x y hx hy => ?_, fun x y hx hy => ?_, fun x y hx hy => ?_⟩
  · rw [hl] at hx
    exact (le_ord hx).2 ⟨hx, h.rf x hx⟩
  · rw [hl] at hx
    have q1 := (le_ord hx).1 h1
    have q2 := (le_ord q1.1).1 h2
    exact (le_ord hx).2 ⟨q2.1, h.tr x y z hx q1.1 q2.1 q1.2 q2.2⟩
  · rw [hl] at hx hy
    exact h.an x y hx hy ((le_ord hx).1 h1).2 ((le_ord hy).1 h2).2
  · rw [hl] at hx hy
    refine ⟨ent A x y, by rw [hl]; exact EA x y hx hy, fun z hz => ?_⟩
    rw [hl] at hz
    rw [le_ord hz, le_ord hz, le_ord hz, h.hA x y z hx hy hz]
    exact ⟨fun q => ⟨⟨hx, q.2.1⟩, hy, q.2.2⟩, fun q => ⟨EA x y hx hy, q.1.2, q.2.2⟩⟩
  · rw [hl] at hx hy
    have ho := EO x y hx hy
    refine ⟨ent O x y, by rw [hl]; exact ho, fun z hz => ?_⟩
    rw [hl] at hz
    rw [le_ord ho, le_ord hx, le_ord hy, h.hO x y z hx hy hz]
    exact ⟨fun q => ⟨⟨hz, q.2.1⟩, hz, q.2.2⟩, fun q => ⟨hz, q.1.2, q.2.2⟩⟩
  · rw [hl] at hx hy
    have hi := EI x y hx hy
    refine ⟨ent I x y, by rw [hl]; exact hi, fun z hz => ?_⟩
    rw [hl] at hz
    have hzx := EA z x hz hx
    rw [le_ord hz, h.hI x y z hx hy hz]
    constructor
    · rintro ⟨-, q⟩ u hu h1 h2
      rw [hl] at hu
      have h3 := (h.hA z x u hz hx hu).2 ⟨((le_ord hu).1 h1).2, ((le_ord hu).1 h2).2⟩
      exact (le_ord hu).2 ⟨hy, h.tr u _ y hu hzx hy h3 q⟩
    · intro q
      have h3 := (h.hA z x _ hz hx hzx).1 (h.rf _ hzx)
      have := q (ent A z x) (by rw [hl]; exact hzx) ((le_ord hzx).2 ⟨hz, h3.1⟩) ((le_ord hzx).2 ⟨hx, h3.2⟩)
      exact ⟨hi, ((le_ord hzx).1 this).2⟩
/-- then it is the one that its order builds -/
theorem Alg_hyt {A O I : List (List Nat)} {b t : Nat} (h : Alg A O I b t) : hyt (lil A) (lil O) (lil I) b t := by
  have HX := Alg_Hx h
  have HH := Hx_HA HX
  have hl := ordH_length A
  have n1 := h.n1
  have n30 := h.n30
  have e1 : ∀ x y, x < A.length → y < A.length → fA (ordH A) x y = ((ent A x y : Nat) : Int) := fun x y hx hy => by
    obtain ⟨a, ea, al, aa⟩ := HH.A x y (by omega) (by omega)
    have hg := h.tA.ent_lt hx hy
    have hE : a = ent A x y := glb_one HX al (by omega) aa fun z hz => by
      rw [hl] at hz
      rw [le_ord hz, le_ord hz, le_ord hz, h.hA x y z hx hy hz]
      exact ⟨fun q => ⟨⟨hx, q.2.1⟩, hy, q.2.2⟩, fun q => ⟨hg, q.1.2, q.2.2⟩⟩
    rw [ea, hE]
  have e2 : ∀ x y, x < A.length → y < A.length → fO (ordH A) x y = ((ent O x y : Nat) : Int) := fun x y hx hy => by
    obtain ⟨a, ea, al, aa⟩ := HH.O x y (by omega) (by omega)
    have hg := h.tO.ent_lt hx hy
    have hE : a = ent O x y := lub_one HX al (by omega) aa fun z hz => by
      rw [hl] at hz
      rw [le_ord hg, le_ord hx, le_ord hy, h.hO x y z hx hy hz]
      exact ⟨fun q => ⟨⟨hz, q.2.1⟩, hz, q.2.2⟩, fun q => ⟨hz, q.1.2, q.2.2⟩⟩
    rw [ea, hE]
  have e3 : ∀ x y, x < A.length → y < A.length → fI (ordH A) x y = ((ent I x y : Nat) : Int) := fun x y hx hy => by
    obtain ⟨a, ea, al, aa⟩ := HH.I x y (by omega) (by omega)
    have hg := h.tI.ent_lt hx hy
    have hE : a = ent I x y := glb_one HX al (by omega) aa fun z hz => by
      rw [hl] at hz
      have hzx := h.tA.ent_lt hz hx
      rw [e1 z x hz hx, Int.toNat_natCast, le_ord hz, le_ord hzx, h.hI x y z hx hy hz]
      exact ⟨fun q => ⟨hy, q.2⟩, fun q => ⟨hg, q.2⟩⟩
    rw [ea, hE]
  have e4 : botI (ordH A) = (b : Int) := by
    obtain ⟨a, ea, al, aa⟩ := HH.b
    have hb := h.bl
    rw [ea, HX.an a b al (by omega) (aa b (by omega)) ((le_ord hb).2 ⟨by omega, h.hb a (by omega)⟩)]
  have e5 : topI (ordH A) = (t : Int) := by
    obtain ⟨a, ea, al, aa⟩ := HH.t
    have hb := h.tl
    rw [ea, HX.an a t al (by omega) ((le_ord (by omega)).2 ⟨by omega, h.ht a (by omega)⟩) (aa t (by omega))]
  unfold hyt
  rw [nsOf_lil, lil_length, e4, e5]
  exact ⟨inR_iff.2 ⟨by omega, by omega⟩, tbH_of h.tA, tbH_of h.tO, tbH_of h.tI, Hx_ok HX, tab_eq h.tA e1, tab_eq h.tO e2, tab_eq h.tI e3, rfl, rfl⟩
/-- the order among some sets -/
def uo (us : List Nat) : List Nat := lnk us.length us.length fun x y => decide (andnot (us.getD x 0) (us.getD y 0) = 0)
theorem uo_length (us : List Nat) : (uo us).length = us.length := lnk_length _ _ _
theorem le_uo {us : List Nat} {x y : Nat} (hx : x < us.length) : Le (uo us) x y ↔ y < us.length ∧ ∀ i, (us.getD x 0).testBit i = true → (us.getD y 0).testBit i = true := by
  unfold Le uo
  rw [lnk_getD _ hx, msk_testBit, Bool.and_eq_true, decide_eq_true_eq, decide_eq_true_eq, andnot_zero]
theorem mem_at {us : List Nat} {m : Nat} (h : m ∈ us) : ∃ i, i < us.length ∧ us.getD i 0 = m := by
  obtain ⟨i, hi, rfl⟩ := List.mem_iff_getElem.1 h
  exact ⟨i, hi, getD_at hi⟩
def orAll : List Nat → Nat
  | [] => 0
  | x :: l => x ||| orAll l
theorem orAll_bit (l : List Nat) (i : Nat) : (orAll l).testBit i = true ↔ ∃ z ∈ l, z.testBit i = true := by
  induction l with
  | nil => simp [orAll]
  | cons x l ih =>
    rw [orAll, Nat.testBit_or, Bool.or_eq_true, ih]
    simp
theorem orAll_mem {us : List Nat} (h0 : 0 ∈ us) (hor : ∀ a ∈ us, ∀ b ∈ us, a ||| b ∈ us) (l : List Nat) (hl : ∀ z ∈ l, z ∈ us) : orAll l ∈ us := by
  induction l with
  | nil => exact h0
  | cons x l ih => exact hor _ (hl x (.head _)) _ (ih fun z hz => hl z (.tail _ hz))
theorem nodup_at {us : List Nat} (hn : us.Nodup) {x y : Nat} (hx : x < us.length) (hy : y < us.length) (he : us[x] = us[y]) : x = y := by
  have hp := List.pairwise_iff_getElem.1 hn
  rcases Nat.lt_trichotomy x y with h | h | h
  · exact absurd he (hp x y hx hy h)
  · exact h
  · exact absurd he.symm (hp y x hy hx h)
/-- sets that are closed under union and intersection -/
theorem Hx_uo {us : List Nat} (hn : us.Nodup) (h30 : us.length ≤ 30) (h0 : 0 ∈ us) (hor : ∀ a ∈ us, ∀ b ∈ us, a ||| b ∈ us) (hand : ∀ a ∈ us, ∀ b ∈ us, a &&& b ∈ us) : Hx (uo us) := by
  have hl := uo_length us
  have hmem : ∀ x, x < us.length → us.getD x 0 ∈ us := fun x hx => by rw [getD_at hx]; exact List.getElem_mem _
  have h1 : 1 ≤ us.length := by
    obtain ⟨i, hi, -⟩ := mem_at h0
    omega
  refine ⟨⟨by omega, ?_⟩, by omega, fun x hx => ?_, fun x y z hx q1 q2 => ?_, fun x y hx hy q1 q2 => ?_, fun x y hx hy => ?_, fun x y hx hy => ?_, fun x y hx hy => ?_⟩
  · rw [hl]
    exact lnk_lt _ _ _
  · rw [hl] at hx
    exact (le_uo hx).2 ⟨hx, fun i hi => hi⟩
  · rw [hl] at hx
    have p1 := (le_uo hx).1 q1
    have p2 := (le_uo p1.1).1 q2
    exact (le_uo hx).2 ⟨p2.1, fun i hi => p2.2 i (p1.2 i hi)⟩
  · rw [hl] at hx hy
    have p1 := (le_uo hx).1 q1
    have p2 := (le_uo hy).1 q2
    have he : us.getD x 0 = us.getD y 0 := Nat.eq_of_testBit_eq fun i => by
      rw [Bool.eq_iff_iff]
      exact ⟨p1.2 i, p2.2 i⟩
    rw [getD_at hx, getD_at hy] at he
    exact nodup_at hn hx hy he
  · rw [hl] at hx hy
    obtain ⟨a, ha, ea⟩ := mem_at (hand _ (hmem x hx) _ (hmem y hy))
    refine ⟨a, by rw [hl]; exact ha, fun z hz => ?_⟩
    rw [hl] at hz
    rw [le_uo hz, le_uo hz, le_uo hz, ea]
    constructor
    · rintro ⟨-, q⟩
      refine ⟨⟨hx, fun i hi => ?_⟩, hy, fun i hi => ?_⟩
      · have := q i hi
        rw [Nat.testBit_and, Bool.and_eq_true] at this
        exact this.1
      · have := q i hi
        rw [Nat.testBit_and, Bool.and_eq_true] at this
        exact this.2
    · rintro ⟨⟨-, q1⟩, -, q2⟩
      refine ⟨ha, fun i hi => ?_⟩
      rw [Nat.testBit_and, Bool.and_eq_true]
      exact ⟨q1 i hi, q2 i hi⟩
  · rw [hl] at hx hy
    obtain ⟨a, ha, ea⟩ := mem_at (hor _ (hmem x hx) _ (hmem y hy))
    refine ⟨a, by rw [hl]; exact ha, fun z hz => ?_⟩
    rw [hl] at hz
    rw [le_uo ha, le_uo hx, le_uo hy, ea]
    constructor
    · rintro ⟨-, q⟩
      refine ⟨⟨hz, fun i hi => q i ?_⟩, hz, fun i hi => q i ?_⟩
      · rw [Nat.testBit_or, Bool.or_eq_true]; exact .inl hi
      · rw [Nat.testBit_or, Bool.or_eq_true]; exact .inr hi
    · rintro ⟨⟨-, q1⟩, -, q2⟩
      refine ⟨hz, fun i hi => ?_⟩
      rw [Nat.testBit_or, Bool.or_eq_true] at hi
      rcases hi with hi | hi
      · exact q1 i hi
      · exact q2 i hi
  · rw [hl] at hx hy
    obtain ⟨a, ha, ea⟩ := mem_at (orAll_mem h0 hor (us.filter fun z => decide (andnot (z &&& us.getD x 0) (us.getD y 0) = 0)) fun z hz => (List.mem_filter.1 hz).1)
    refine ⟨a, by rw [hl]; exact ha, fun z hz => ?_⟩
    rw [hl] at hz
    rw [le_uo hz, ea]
    constructor
    · rintro ⟨-, q⟩ u hu h2 h3
      rw [hl] at hu
      have p1 := (le_uo hu).1 h2
      have p2 := (le_uo hu).1 h3
      refine (le_uo hu).2 ⟨hy, fun i hi => ?_⟩
      obtain ⟨v, hv, hvi⟩ := (orAll_bit _ i).1 (q i (p1.2 i hi))
      have hv2 := (List.mem_filter.1 hv).2
      rw [decide_eq_true_eq, andnot_zero] at hv2
      refine hv2 i ?_
      rw [Nat.testBit_and, Bool.and_eq_true]
      exact ⟨hvi, p2.2 i hi⟩
    · intro q
      obtain ⟨c, hc, ec⟩ := mem_at (hand _ (hmem z hz) _ (hmem x hx))
      have h2 := q c (by rw [hl]; exact hc) ((le_uo hc).2 ⟨hz, fun i hi => by rw [ec, Nat.testBit_and, Bool.and_eq_true] at hi; exact hi.1⟩) ((le_uo hc).2 ⟨hx, fun i hi => by rw [ec, Nat.testBit_and, Bool.and_eq_true] at hi; exact hi.2⟩)
      have h3 := ((le_uo hc).1 h2).2
      refine ⟨ha, fun i hi => (orAll_bit _ i).2 ⟨us.getD z 0, List.mem_filter.2 ⟨hmem z hz, ?_⟩, hi⟩⟩
      rw [decide_eq_true_eq, andnot_zero, ← ec]
      exact h3
/-- the upsets -/
def ups (ns : List Nat) : List Nat := (List.range (2 ^ ns.length)).filter fun m => decide (img ns m = m)
theorem ups_mem {ns : List Nat} {m : Nat} : m ∈ ups ns ↔ m < 2 ^ ns.length ∧ img ns m = m := by
  unfold ups
  rw [List.mem_filter, List.mem_range, decide_eq_true_eq]
theorem img_bitH (ns : List Nat) (m b : Nat) : (img ns m).testBit b = true ↔ ∃ i, i < ns.length ∧ m.testBit i = true ∧ Le ns i b := imgTo_bit ns m b ns.length
theorem img_upH {ns : List Nat} {m : Nat} (h : img ns m = m) (hm : m < 2 ^ ns.length) {i b : Nat} (hi : m.testBit i = true) (hb : Le ns i b) : m.testBit b = true := by
  rw [← h, img_bitH]
  exact ⟨i, bit_lt hm hi, hi, hb⟩
theorem img_ofH {ns : List Nat} {m : Nat} (hr : ∀ x ∈ ns, x < 2 ^ ns.length) (hm : m < 2 ^ ns.length) (rf : ∀ x, x < ns.length → Le ns x x) (h : ∀ i b, i < ns.length → m.testBit i = true → Le ns i b → m.testBit b = true) : img ns m = m := by
  refine msk_ext ns.length (imgTo_lt hr _ _) hm fun i hi => ?_
  rw [Bool.eq_iff_iff]
  show (img ns m).testBit i = true ↔ _
  rw [img_bitH]
  exact ⟨fun ⟨j, hj, h1, h2⟩ => h j i hj h1 h2, fun h1 => ⟨i, hi, h1, rf i hi⟩⟩
theorem Hx_ups {ns : List Nat} (hr : ∀ x ∈ ns, x < 2 ^ ns.length) (rf : ∀ x, x < ns.length → Le ns x x) (h30 : (ups ns).length ≤ 30) : Hx (uo (ups ns)) := by
  refine Hx_uo (List.Pairwise.filter _ List.nodup_range) h30 ?_ (fun a ha b hb => ?_) (fun a ha b hb => ?_)
  · rw [ups_mem]
    have hp : 0 < 2 ^ ns.length := Nat.pow_pos (by decide)
    exact ⟨hp, img_ofH hr hp rf fun i b _ h1 => by simp at h1⟩
  · rw [ups_mem] at ha hb ⊢
    have hlt : a ||| b < 2 ^ ns.length := Nat.or_lt_two_pow ha.1 hb.1
    refine ⟨hlt, img_ofH hr hlt rf fun i c _ h1 h2 => ?_⟩
    rw [Nat.testBit_or, Bool.or_eq_true] at h1 ⊢
    rcases h1 with h1 | h1
    · exact .inl (img_upH ha.2 ha.1 h1 h2)
    · exact .inr (img_upH hb.2 hb.1 h1 h2)
  · rw [ups_mem] at ha hb ⊢
    have hlt : a &&& b < 2 ^ ns.length := Nat.lt_of_le_of_lt Nat.and_le_left ha.1
    refine ⟨hlt, img_ofH hr hlt rf fun i c _ h1 h2 => ?_⟩
    rw [Nat.testBit_and, Bool.and_eq_true] at h1 ⊢
    exact ⟨img_upH ha.2 ha.1 h1.1 h2, img_upH hb.2 hb.1 h1.2 h2⟩
/-- a chain -/
def chn (n : Nat) : List Nat := (List.range n).map fun x => andnot (2 ^ n - 1) (2 ^ x - 1)
theorem chn_length (n : Nat) : (chn n).length = n := by simp [chn]
theorem le_chn {n x y : Nat} (hx : x < n) : Le (chn n) x y ↔ y < n ∧ x ≤ y := by
  unfold Le chn
  rw [List.getD_eq_getElem?_getD, List.getElem?_map, List.getElem?_range hx]
  show (andnot (2 ^ n - 1) (2 ^ x - 1)).testBit y = true ↔ _
  rw [andnot_testBit, Nat.testBit_two_pow_sub_one, Nat.testBit_two_pow_sub_one, Bool.and_eq_true, decide_eq_true_eq, Bool.not_eq_true', decide_eq_false_iff_not]
  omega
theorem Hx_chn {n : Nat} (h1 : 1 ≤ n) (h30 : n ≤ 30) : Hx (chn n) := by
  have hl := chn_length n
  refine ⟨⟨by omega, fun m hm => ?_⟩, by omega, fun x hx => ?_, fun x y z hx q1 q2 => ?_, fun x y hx hy q1 q2 => ?_, fun x y hx hy => ?_, fun x y hx hy => ?_, fun x y hx hy => ?_⟩
  · obtain ⟨x, hx, rfl⟩ := List.mem_map.1 hm
    rw [hl]
    have hp : 0 < 2 ^ n := Nat.pow_pos (by decide)
    exact andnot_lt (by omega)
  · rw [hl] at hx
    exact (le_chn hx).2 ⟨hx, Nat.le_refl _⟩
  · rw [hl] at hx
    have p1 := (le_chn hx).1 q1
    have p2 := (le_chn p1.1).1 q2
    exact (le_chn hx).2 ⟨p2.1, by omega⟩
  · rw [hl] at hx hy
    have p1 := (le_chn hx).1 q1
    have p2 := (le_chn hy).1 q2
    omega
  · rw [hl] at hx hy
    refine ⟨min x y, by omega, fun z hz => ?_⟩
    rw [hl] at hz
    rw [le_chn hz, le_chn hz, le_chn hz]
    omega
  · rw [hl] at hx hy
    refine ⟨max x y, by omega, fun z hz => ?_⟩
    rw [hl] at hz
    rw [le_chn (show max x y < n by omega), le_chn hx, le_chn hy]
    omega
  · rw [hl] at hx hy
    refine ⟨if x ≤ y then n - 1 else y, by split <;> omega, fun z hz => ?_⟩
    rw [hl] at hz
    rw [le_chn hz]
    constructor
    · rintro ⟨-, q⟩ u hu h2 h3
      rw [hl] at hu
      have p2 := (le_chn hu).1 h2
      have p3 := (le_chn hu).1 h3
      refine (le_chn hu).2 ⟨hy, ?_⟩
      split at q <;> omega
    · intro q
      by_cases hxy : x ≤ y
      · rw [if_pos hxy]; omega
      · rw [if_neg hxy]
        refine ⟨by omega, ?_⟩
        have := q (min z x) (by omega) ((le_chn (by omega)).2 ⟨hz, by omega⟩) ((le_chn (by omega)).2 ⟨hx, by omega⟩)
        have := ((le_chn (by omega)).1 this).2
        omega
end Go.Proofs.YtgkogfjifcfkoaaGreat

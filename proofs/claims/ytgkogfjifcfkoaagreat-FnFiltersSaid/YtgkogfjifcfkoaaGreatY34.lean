/- Plain law of chapter 19: the quotient of a Heyting algebra by a filter is one, the map to it is a homomorphism with the filter as its kernel, and the filters are what lies above an element. No program in sight. -/
import Derived.Test.YtgkogfjifcfkoaaGreatY33
namespace Go.Proofs.YtgkogfjifcfkoaaGreat
open Go.RowKit
set_option linter.unusedVariables false
set_option linter.unusedSimpArgs false
/-- one element is below another one up to a filter -/
def Px (ns : List Nat) (m x y : Nat) : Prop := m.testBit (fI ns x y).toNat = true
theorem px_iff {ns : List Nat} (h : HA ns) {m : Nat} (hm : m < 2 ^ ns.length) (hf : isFl ns m) {x y : Nat} (hx : x < ns.length) (hy : y < ns.length) :
    Px ns m x y ↔ ∃ f, f < ns.length ∧ m.testBit f = true ∧ ∀ u, u < ns.length → Le ns u f → Le ns u x → Le ns u y := by
  obtain ⟨a, ea, al, aa⟩ := h.I x y hx hy
  unfold Px
  rw [ea, Int.toNat_natCast]
  constructor
  · intro hh
    exact ⟨a, al, hh, (HA_meet h al hx).1 ((aa a al).1 (h.rf a al))⟩
  · rintro ⟨f, fl, fm, hh⟩
    exact fl_up hm hf fm ((aa f fl).2 ((HA_meet h fl hx).2 hh))
theorem fl_two {ns : List Nat} (h : HA ns) {m : Nat} (hm : m < 2 ^ ns.length) (hf : isFl ns m) {f g : Nat} (h1 : m.testBit f = true) (h2 : m.testBit g = true) :
    ∃ k, k < ns.length ∧ m.testBit k = true ∧ Le ns k f ∧ Le ns k g := by
  have h3 := fl_meet h hm hf h1 h2
  obtain ⟨a, ea, al, aa⟩ := h.A f g (bit_lt hm h1) (bit_lt hm h2)
  rw [ea, Int.toNat_natCast] at h3
  exact ⟨a, al, h3, (aa a al).1 (h.rf a al)⟩
theorem px_le {ns : List Nat} (h : HA ns) {m : Nat} (hm : m < 2 ^ ns.length) (hf : isFl ns m) {x y : Nat} (hx : x < ns.length) (hy : y < ns.length) (hh : Le ns x y) : Px ns m x y := by
  obtain ⟨t, ht, htl, htt⟩ := h.t
  have h1 := hf.1
  rw [ht, Int.toNat_natCast] at h1
  exact (px_iff h hm hf hx hy).2 ⟨t, htl, h1, fun u hu _ h2 => h.tr _ _ _ hu h2 hh⟩
theorem px_refl {ns : List Nat} (h : HA ns) {m : Nat} (hm : m < 2 ^ ns.length) (hf : isFl ns m) {x : Nat} (hx : x < ns.length) : Px ns m x x := px_le h hm hf hx hx (h.rf x hx)
theorem px_trans {ns : List Nat} (h : HA ns) {m : Nat} (hm : m < 2 ^ ns.length) (hf : isFl ns m) {x y z : Nat} (hx : x < ns.length) (hy : y < ns.length) (hz : z < ns.length) (h1 : Px ns m x y) (h2 : Px ns m y z) : Px ns m x z :=
  imp_comp h hm hf hx hy hz h1 h2
theorem px_A {ns : List Nat} (h : HA ns) {m : Nat} (hm : m < 2 ^ ns.length) (hf : isFl ns m) {x y z a : Nat} (hx : x < ns.length) (hy : y < ns.length) (hz : z < ns.length) (ha : a < ns.length)
    (hh : ∀ u, u < ns.length → (Le ns u a ↔ Le ns u x ∧ Le ns u y)) : Px ns m z a ↔ Px ns m z x ∧ Px ns m z y := by
  rw [px_iff h hm hf hz ha, px_iff h hm hf hz hx, px_iff h hm hf hz hy]
  constructor
  · rintro ⟨f, fl, fm, q⟩
    exact ⟨⟨f, fl, fm, fun u hu h1 h2 => ((hh u hu).1 (q u hu h1 h2)).1⟩, f, fl, fm, fun u hu h1 h2 => ((hh u hu).1 (q u hu h1 h2)).2⟩
  · rintro ⟨⟨f, fl, fm, q⟩, g, gl, gm, r⟩
    obtain ⟨k, kl, km, k1, k2⟩ := fl_two h hm hf fm gm
    exact ⟨k, kl, km, fun u hu h1 h2 => (hh u hu).2 ⟨q u hu (h.tr _ _ _ hu h1 k1) h2, r u hu (h.tr _ _ _ hu h1 k2) h2⟩⟩
theorem px_O {ns : List Nat} (h : HA ns) {m : Nat} (hm : m < 2 ^ ns.length) (hf : isFl ns m) {x y z o : Nat} (hx : x < ns.length) (hy : y < ns.length) (hz : z < ns.length) (ho : o < ns.length)
    (hh : ∀ u, u < ns.length → (Le ns o u ↔ Le ns x u ∧ Le ns y u)) : Px ns m o z ↔ Px ns m x z ∧ Px ns m y z := by
  have hxy := (hh o ho).1 (h.rf o ho)
  rw [px_iff h hm hf ho hz, px_iff h hm hf hx hz, px_iff h hm hf hy hz]
  constructor
  · rintro ⟨f, fl, fm, q⟩
    exact ⟨⟨f, fl, fm, fun u hu h1 h2 => q u hu h1 (h.tr _ _ _ hu h2 hxy.1)⟩, f, fl, fm, fun u hu h1 h2 => q u hu h1 (h.tr _ _ _ hu h2 hxy.2)⟩
  · rintro ⟨⟨f, fl, fm, q⟩, g, gl, gm, r⟩
    obtain ⟨k, kl, km, k1, k2⟩ := fl_two h hm hf fm gm
    obtain ⟨i, hil, ii⟩ := (HA_Hx h).I k z kl hz
    have hxi : Le ns x i := (ii x hx).2 fun u hu h1 h2 => q u hu (h.tr _ _ _ hu h2 k1) h1
    have hyi : Le ns y i := (ii y hy).2 fun u hu h1 h2 => r u hu (h.tr _ _ _ hu h2 k2) h1
    have hoi := (hh i hil).2 ⟨hxi, hyi⟩
    exact ⟨k, kl, km, fun u hu h1 h2 => (ii o ho).1 hoi u hu h2 h1⟩
theorem px_I {ns : List Nat} (h : HA ns) {m : Nat} (hm : m < 2 ^ ns.length) (hf : isFl ns m) {x y z i a : Nat} (hx : x < ns.length) (hy : y < ns.length) (hz : z < ns.length) (hi : i < ns.length) (ha : a < ns.length)
    (hh : ∀ w, w < ns.length → (Le ns w i ↔ ∀ u, u < ns.length → Le ns u w → Le ns u x → Le ns u y)) (hA : ∀ u, u < ns.length → (Le ns u a ↔ Le ns u z ∧ Le ns u x)) : Px ns m z i ↔ Px ns m a y := by
  rw [px_iff h hm hf hz hi, px_iff h hm hf ha hy]
  constructor
  · rintro ⟨f, fl, fm, q⟩
    refine ⟨f, fl, fm, fun u hu h1 h2 => ?_⟩
    have h3 := (hA u hu).1 h2
    exact (hh u hu).1 (q u hu h1 h3.1) u hu (h.rf u hu) h3.2
  · rintro ⟨f, fl, fm, q⟩
    refine ⟨f, fl, fm, fun u hu h1 h2 => (hh u hu).2 fun v hv h3 h4 => ?_⟩
    exact q v hv (h.tr _ _ _ hv h3 h1) ((hA v hv).2 ⟨h.tr _ _ _ hv h3 h2, h4⟩)
/-- the classes -/
def hcl (ns : List Nat) (m : Nat) : List Nat := (ccl ns m ns.length).1
def hqn (ns : List Nat) (m : Nat) : Nat := (ccl ns m ns.length).2
def hqf (ns : List Nat) (m : Nat) : List Nat := fsl (hcl ns m) ns.length
theorem hcl_length (ns : List Nat) (m : Nat) : (hcl ns m).length = ns.length := ccl_length _ _ _
theorem hcl_lt (ns : List Nat) (m : Nat) {x : Nat} (hx : x < ns.length) : (hcl ns m).getD x 0 < hqn ns m := ((dvd_fw _ ns.length).1 x hx).1
theorem hcl_eq {ns : List Nat} (h : HA ns) {m : Nat} (hm : m < 2 ^ ns.length) (hf : isFl ns m) {x y : Nat} (hx : x < ns.length) (hy : y < ns.length) :
    (hcl ns m).getD x 0 = (hcl ns m).getD y 0 ↔ Px ns m x y ∧ Px ns m y x := by
  obtain ⟨h1, h2, h3⟩ := dvd_fw (fun y => (rlM ns m).getD y 0) ns.length
  have hk : (rlM ns m).getD x 0 = (rlM ns m).getD y 0 ↔ Px ns m x y ∧ Px ns m y x := by
    rw [rlM_eq h hm hf hx hy]
    unfold rlt Px
    rw [Bool.and_eq_true]
    exact And.comm
  rw [← hk]
  constructor
  · intro he
    have e1 := (h1 x hx).2
    have e2 := (h1 y hy).2
    unfold hcl ccl at he
    rw [he] at e1
    exact e1.symm.trans e2
  · intro he
    exact h3 x y hx hy he
theorem hqf_length (ns : List Nat) (m : Nat) : (hqf ns m).length = hqn ns m := (fsl_dvd _ ns.length ns.length (Nat.le_refl _)).1
theorem hqf_at (ns : List Nat) (m : Nat) {c : Nat} (hc : c < hqn ns m) : (hqf ns m).getD c 0 < ns.length ∧ (hcl ns m).getD ((hqf ns m).getD c 0) 0 = c := by
  have := (fsl_dvd (fun y => (rlM ns m).getD y 0) ns.length ns.length (Nat.le_refl _)).2 c hc
  exact ⟨this.1, this.2.1⟩
theorem hqn_le (ns : List Nat) (m : Nat) : hqn ns m ≤ ns.length := dvd_count _ _
theorem hqn_pos {ns : List Nat} (m : Nat) (h : 1 ≤ ns.length) : 1 ≤ hqn ns m := by
  have := hcl_lt ns m (show 0 < ns.length from h)
  omega
/-- the first member of a class is like all -/
theorem hqf_like {ns : List Nat} (h : HA ns) {m : Nat} (hm : m < 2 ^ ns.length) (hf : isFl ns m) {x : Nat} (hx : x < ns.length) :
    Px ns m ((hqf ns m).getD ((hcl ns m).getD x 0) 0) x ∧ Px ns m x ((hqf ns m).getD ((hcl ns m).getD x 0) 0) := by
  have hc := hqf_at ns m (hcl_lt ns m hx)
  exact (hcl_eq h hm hf hc.1 hx).1 hc.2
/-- a table of the quotient -/
def qN (ns : List Nat) (m : Nat) (X : List (List Nat)) : List (List Nat) :=
  (List.range (hqn ns m)).map fun c => (List.range (hqn ns m)).map fun d => (hcl ns m).getD (ent X ((hqf ns m).getD c 0) ((hqf ns m).getD d 0)) 0
theorem qN_length (ns : List Nat) (m : Nat) (X : List (List Nat)) : (qN ns m X).length = hqn ns m := by simp [qN]
theorem qN_ent (ns : List Nat) (m : Nat) (X : List (List Nat)) {c d : Nat} (hc : c < hqn ns m) (hd : d < hqn ns m) : ent (qN ns m X) c d = (hcl ns m).getD (ent X ((hqf ns m).getD c 0) ((hqf ns m).getD d 0)) 0 := by
  unfold ent qN
  rw [List.getD_eq_getElem?_getD, List.getD_eq_getElem?_getD, List.getElem?_map, List.getElem?_range hc]
  show ((((List.range (hqn ns m)).map fun d => (hcl ns m).getD (ent X ((hqf ns m).getD c 0) ((hqf ns m).getD d 0)) 0)[d]?).getD 0) = _
  rw [List.getElem?_map, List.getElem?_range hd]
  rfl
theorem qN_tab (ns : List Nat) (m : Nat) (X : List (List Nat)) (hT : TabN ns.length X) : TabN (hqn ns m) (qN ns m X) := by
  refine ⟨qN_length _ _ _, fun r hr => ?_⟩
  obtain ⟨c, hc, rfl⟩ := List.mem_map.1 hr
  refine ⟨by simp, fun x hx => ?_⟩
  obtain ⟨d, hd, rfl⟩ := List.mem_map.1 hx
  exact hcl_lt ns m (hT.ent_lt (hqf_at ns m (List.mem_range.1 hc)).1 (hqf_at ns m (List.mem_range.1 hd)).1)
theorem qN_lil (ns : List Nat) (m : Nat) (X : List (List Nat)) : lil (qN ns m X) = tabI (qe X (hqf ns m) (hcl ns m)) (hqf ns m).length (hqf ns m).length := by
  rw [hqf_length]
  unfold lil qN tabI rowI qe li
  rw [List.map_map]
  refine List.map_congr_left fun c _ => ?_
  show List.map _ (List.map _ _) = _
  rw [List.map_map]
  rfl
/-- what a Heyting algebra says of its elements -/
theorem HyT.gA {A O I : List (List Nat)} {b t : Nat} (h : HyT A O I b t) {x y : Nat} (hx : x < A.length) (hy : y < A.length) : ∀ z, z < (ordH A).length → (Le (ordH A) z (ent A x y) ↔ Le (ordH A) z x ∧ Le (ordH A) z y) := by
  have hl := ordH_length A
  obtain ⟨a, ea, al, aa⟩ := h.ha.A x y (by omega) (by omega)
  rw [h.eA x y hx hy] at ea
  rw [Int.ofNat_inj.1 ea]
  exact aa
theorem HyT.gO {A O I : List (List Nat)} {b t : Nat} (h : HyT A O I b t) {x y : Nat} (hx : x < A.length) (hy : y < A.length) : ∀ z, z < (ordH A).length → (Le (ordH A) (ent O x y) z ↔ Le (ordH A) x z ∧ Le (ordH A) y z) := by
  have hl := ordH_length A
  obtain ⟨a, ea, al, aa⟩ := h.ha.O x y (by omega) (by omega)
  rw [h.eO x y hx hy] at ea
  rw [Int.ofNat_inj.1 ea]
  exact aa
theorem HyT.gI {A O I : List (List Nat)} {b t : Nat} (h : HyT A O I b t) {x y : Nat} (hx : x < A.length) (hy : y < A.length) : ∀ z, z < (ordH A).length → (Le (ordH A) z (ent I x y) ↔ ∀ u, u < (ordH A).length → Le (ordH A) u z → Le (ordH A) u x → Le (ordH A) u y) := by
  have hl := ordH_length A
  obtain ⟨a, ea, al, aa⟩ := h.ha.I x y (by omega) (by omega)
  rw [h.eI x y hx hy] at ea
  rw [Int.ofNat_inj.1 ea]
  exact fun z hz => (aa z hz).trans (HA_meet h.ha hz (by omega))
theorem HyT.gb {A O I : List (List Nat)} {b t : Nat} (h : HyT A O I b t) {x : Nat} (hx : x < A.length) : Le (ordH A) b x := by
  have hl := ordH_length A
  obtain ⟨a, ea, al, aa⟩ := h.ha.b
  rw [h.eb] at ea
  rw [Int.ofNat_inj.1 ea]
  exact aa x (by omega)
theorem HyT.gt {A O I : List (List Nat)} {b t : Nat} (h : HyT A O I b t) {x : Nat} (hx : x < A.length) : Le (ordH A) x t := by
  have hl := ordH_length A
  obtain ⟨a, ea, al, aa⟩ := h.ha.t
  rw [h.et] at ea
  rw [Int.ofNat_inj.1 ea]
  exact aa x (by omega)
/-- the quotient's order -/
theorem qR {A O I : List (List Nat)} {b t m : Nat} (h : HyT A O I b t) (hm : m < 2 ^ (ordH A).length) (hf : isFl (ordH A) m) {c d : Nat} (hc : c < hqn (ordH A) m) (hd : d < hqn (ordH A) m) :
    ent (qN (ordH A) m A) c d = c ↔ Px (ordH A) m ((hqf (ordH A) m).getD c 0) ((hqf (ordH A) m).getD d 0) := by
  have hl := ordH_length A
  obtain ⟨c1, c2⟩ := hqf_at (ordH A) m hc
  obtain ⟨d1, d2⟩ := hqf_at (ordH A) m hd
  have hg := h.gA (x := (hqf (ordH A) m).getD c 0) (y := (hqf (ordH A) m).getD d 0) (by omega) (by omega)
  have ha : ent A ((hqf (ordH A) m).getD c 0) ((hqf (ordH A) m).getD d 0) < (ordH A).length := by rw [hl]; exact h.tA.ent_lt (by omega) (by omega)
  rw [qN_ent _ _ _ hc hd]
  generalize ent A _ _ = a at *
  conv => lhs; rhs; rw [← c2]
  rw [hcl_eq h.ha hm hf ha c1, px_A h.ha hm hf c1 d1 c1 ha hg]
  exact ⟨fun q => q.2.2, fun q => ⟨px_le h.ha hm hf ha c1 ((hg a ha).1 (h.ha.rf a ha)).1, px_refl h.ha hm hf c1, q⟩⟩
/-- the quotient is a Heyting algebra -/
theorem qt_alg {A O I : List (List Nat)} {b t m : Nat} (h : HyT A O I b t) (hm : m < 2 ^ (ordH A).length) (hf : isFl (ordH A) m) :
    Alg (qN (ordH A) m A) (qN (ordH A) m O) (qN (ordH A) m I) ((hcl (ordH A) m).getD b 0) ((hcl (ordH A) m).getD t 0) := by
  have hl := ordH_length A
  have HH := h.ha
  have hq := qN_length (ordH A) m A
  have n1 := h.n1
  have n30 := h.n30
  have hqle := hqn_le (ordH A) m
  have hqp := hqn_pos (ns := ordH A) m (by omega)
  have tA : TabN (ordH A).length A := by rw [hl]; exact h.tA
  have tO : TabN (ordH A).length O := by rw [hl]; exact h.tO
  have tI : TabN (ordH A).length I := by rw [hl]; exact h.tI
  have F := fun c (hc : c < hqn (ordH A) m) => hqf_at (ordH A) m hc
  have L := fun x (hx : x < (ordH A).length) => hqf_like HH hm hf hx
  have LT := fun x (hx : x < (ordH A).length) => hcl_lt (ordH A) m hx
  have bl : b < (ordH A).length := by rw [hl]; exact h.bl
  have tl : t < (ordH A).length := by rw [hl]; exact h.tl
  -- an element of the quotient and the element that it stands for
  have up : ∀ z x, z < hqn (ordH A) m → x < (ordH A).length → (Px (ordH A) m ((hqf (ordH A) m).getD z 0) ((hqf (ordH A) m).getD ((hcl (ordH A) m).getD x 0) 0) ↔ Px (ordH A) m ((hqf (ordH A) m).getD z 0) x) := fun z x hz hx => by
    have q := L x hx
    have r := (F _ (LT x hx)).1
    exact ⟨fun h1 => px_trans HH hm hf (F z hz).1 r hx h1 q.1, fun h1 => px_trans HH hm hf (F z hz).1 hx r h1 q.2⟩
  have dn : ∀ z x, z < hqn (ordH A) m → x < (ordH A).length → (Px (ordH A) m ((hqf (ordH A) m).getD ((hcl (ordH A) m).getD x 0) 0) ((hqf (ordH A) m).getD z 0) ↔ Px (ordH A) m x ((hqf (ordH A) m).getD z 0)) := fun z x hz hx => by
    have q := L x hx
    have r := (F _ (LT x hx)).1
    exact ⟨fun h1 => px_trans HH hm hf hx r (F z hz).1 q.2 h1, fun h1 => px_trans HH hm hf r hx (F z hz).1 q.1 h1⟩
  have R := fun c d (hc : c < hqn (ordH A) m) (hd : d < hqn (ordH A) m) => qR h hm hf hc hd
  have EL : ∀ X, TabN (ordH A).length X → ∀ c d, c < hqn (ordH A) m → d < hqn (ordH A) m → ent X ((hqf (ordH A) m).getD c 0) ((hqf (ordH A) m).getD d 0) < (ordH A).length := fun X hX c d hc hd => hX.ent_lt (F c hc).1 (F d hd).1
  refine ⟨by omega, by omega, by rw [hq]; exact qN_tab _ _ _ tA, by rw [hq]; exact qN_tab _ _ _ tO, by rw [hq]; exact qN_tab _ _ _ tI, by rw [hq]; exact LT b bl, by rw [hq]; exact LT t tl, ?_, ?_, ?_, ?_, ?_, ?_, ?_, ?_⟩ <;> rw [hq]
  · intro x hx
    exact (R x x hx hx).2 (px_refl HH hm hf (F x hx).1)
  · intro x y z hx hy hz h1 h2
    exact (R x z hx hz).2 (px_trans HH hm hf (F x hx).1 (F y hy).1 (F z hz).1 ((R x y hx hy).1 h1) ((R y z hy hz).1 h2))
  · intro x y hx hy h1 h2
    have := (hcl_eq HH hm hf (F x hx).1 (F y hy).1).2 ⟨(R x y hx hy).1 h1, (R y x hy hx).1 h2⟩
    rw [(F x hx).2, (F y hy).2] at this
    exact this
  · intro x y z hx hy hz
    have hg := h.gA (x := (hqf (ordH A) m).getD x 0) (y := (hqf (ordH A) m).getD y 0) (by have := (F x hx).1; omega) (by have := (F y hy).1; omega)
    have ha := EL A tA x y hx hy
    have hx2 := (F x hx).1
    have hy2 := (F y hy).1
    have hz2 := (F z hz).1
    rw [qN_ent _ _ A hx hy, R z _ hz (LT _ ha), up z _ hz ha, R z x hz hx, R z y hz hy]
    exact px_A HH hm hf hx2 hy2 hz2 ha hg
  · intro x y z hx hy hz
    have hg := h.gO (x := (hqf (ordH A) m).getD x 0) (y := (hqf (ordH A) m).getD y 0) (by have := (F x hx).1; omega) (by have := (F y hy).1; omega)
    have ha := EL O tO x y hx hy
    rw [qN_ent _ _ O hx hy, R _ z (LT _ ha) hz, dn z _ hz ha, R x z hx hz, R y z hy hz]
    exact px_O HH hm hf (F x hx).1 (F y hy).1 (F z hz).1 ha hg
  · intro x y z hx hy hz
    have hg := h.gI (x := (hqf (ordH A) m).getD x 0) (y := (hqf (ordH A) m).getD y 0) (by have := (F x hx).1; omega) (by have := (F y hy).1; omega)
    have hgA := h.gA (x := (hqf (ordH A) m).getD z 0) (y := (hqf (ordH A) m).getD x 0) (by have := (F z hz).1; omega) (by have := (F x hx).1; omega)
    have ha := EL I tI x y hx hy
    have hb := EL A tA z x hz hx
    have hlt := LT _ hb
    rw [qN_ent _ _ I hx hy, R z _ hz (LT _ ha), up z _ hz ha, qN_ent _ _ A hz hx, R _ y hlt hy, dn y _ hy hb]
    exact px_I HH hm hf (F x hx).1 (F y hy).1 (F z hz).1 ha hb hg hgA
  · intro x hx
    rw [R _ x (LT b bl) hx, dn x b hx bl]
    exact px_le HH hm hf bl (F x hx).1 (h.gb (by have := (F x hx).1; omega))
  · intro x hx
    rw [R x _ hx (LT t tl), up x t hx tl]
    exact px_le HH hm hf (F x hx).1 tl (h.gt (by have := (F x hx).1; omega))
/-- the classes are a homomorphism's images -/
theorem qt_map {A O I : List (List Nat)} {b t m : Nat} (h : HyT A O I b t) (hm : m < 2 ^ (ordH A).length) (hf : isFl (ordH A) m) {x y : Nat} (hx : x < A.length) (hy : y < A.length) :
    (hcl (ordH A) m).getD (ent A x y) 0 = ent (qN (ordH A) m A) ((hcl (ordH A) m).getD x 0) ((hcl (ordH A) m).getD y 0) ∧
    (hcl (ordH A) m).getD (ent O x y) 0 = ent (qN (ordH A) m O) ((hcl (ordH A) m).getD x 0) ((hcl (ordH A) m).getD y 0) ∧
    (hcl (ordH A) m).getD (ent I x y) 0 = ent (qN (ordH A) m I) ((hcl (ordH A) m).getD x 0) ((hcl (ordH A) m).getD y 0) := by
  have hl := ordH_length A
  have HH := h.ha
  rw [← hl] at hx hy
  have LX := hcl_lt (ordH A) m hx
  have LY := hcl_lt (ordH A) m hy
  have X1 := (hqf_at (ordH A) m LX).1
  have Y1 := (hqf_at (ordH A) m LY).1
  obtain ⟨x1, x2⟩ := hqf_like HH hm hf hx
  obtain ⟨y1, y2⟩ := hqf_like HH hm hf hy
  rw [qN_ent _ _ A LX LY, qN_ent _ _ O LX LY, qN_ent _ _ I LX LY]
  generalize (hqf (ordH A) m).getD ((hcl (ordH A) m).getD x 0) 0 = x' at *
  generalize (hqf (ordH A) m).getD ((hcl (ordH A) m).getD y 0) 0 = y' at *
  have tA : TabN (ordH A).length A := by rw [hl]; exact h.tA
  have tO : TabN (ordH A).length O := by rw [hl]; exact h.tO
  have tI : TabN (ordH A).length I := by rw [hl]; exact h.tI
  have a1 := tA.ent_lt hx hy
  have a2 := tA.ent_lt X1 Y1
  have o1 := tO.ent_lt hx hy
  have o2 := tO.ent_lt X1 Y1
  have i1 := tI.ent_lt hx hy
  have i2 := tI.ent_lt X1 Y1
  have T := fun {x y z : Nat} (hx : x < (ordH A).length) (hy : y < (ordH A).length) (hz : z < (ordH A).length) => px_trans HH hm hf hx hy hz
  have meet : ∀ x y x' y', x < (ordH A).length → y < (ordH A).length → x' < (ordH A).length → y' < (ordH A).length → Px (ordH A) m x x' → Px (ordH A) m y y' → Px (ordH A) m (ent A x y) (ent A x' y') := fun x y x' y' hx hy X1 Y1 p q => by
    have a1 := tA.ent_lt hx hy
    have a2 := tA.ent_lt X1 Y1
    have g1 := (h.gA (x := x) (y := y) (by omega) (by omega) _ a1).1 (HH.rf _ a1)
    exact (px_A HH hm hf X1 Y1 a1 a2 (h.gA (by omega) (by omega))).2 ⟨T a1 hx X1 (px_le HH hm hf a1 hx g1.1) p, T a1 hy Y1 (px_le HH hm hf a1 hy g1.2) q⟩
  have join : ∀ x y x' y', x < (ordH A).length → y < (ordH A).length → x' < (ordH A).length → y' < (ordH A).length → Px (ordH A) m x x' → Px (ordH A) m y y' → Px (ordH A) m (ent O x y) (ent O x' y') := fun x y x' y' hx hy X1 Y1 p q => by
    have a1 := tO.ent_lt hx hy
    have a2 := tO.ent_lt X1 Y1
    have g1 := (h.gO (x := x') (y := y') (by omega) (by omega) _ a2).1 (HH.rf _ a2)
    exact (px_O HH hm hf hx hy a2 a1 (h.gO (by omega) (by omega))).2 ⟨T hx X1 a2 p (px_le HH hm hf X1 a2 g1.1), T hy Y1 a2 q (px_le HH hm hf Y1 a2 g1.2)⟩
  have imp : ∀ x y x' y', x < (ordH A).length → y < (ordH A).length → x' < (ordH A).length → y' < (ordH A).length → Px (ordH A) m x' x → Px (ordH A) m y y' → Px (ordH A) m (ent I x y) (ent I x' y') := fun x y x' y' hx hy X1 Y1 p q => by
    have a1 := tI.ent_lt hx hy
    have a2 := tI.ent_lt X1 Y1
    have b1 := tA.ent_lt a1 X1
    have b2 := tA.ent_lt a1 hx
    refine (px_I HH hm hf X1 Y1 a1 a2 b1 (h.gI (by omega) (by omega)) (h.gA (by omega) (by omega))).2 ?_
    have c1 := meet _ _ _ _ a1 X1 a1 hx (px_refl HH hm hf a1) p
    have c2 := (px_I HH hm hf hx hy a1 a1 b2 (h.gI (by omega) (by omega)) (h.gA (by omega) (by omega))).1 (px_refl HH hm hf a1)
    exact T b1 b2 Y1 c1 (T b2 hy Y1 c2 q)
  rw [hcl_eq HH hm hf a1 a2, hcl_eq HH hm hf o1 o2, hcl_eq HH hm hf i1 i2]
  exact ⟨⟨meet _ _ _ _ hx hy X1 Y1 x2 y2, meet _ _ _ _ X1 Y1 hx hy x1 y1⟩, ⟨join _ _ _ _ hx hy X1 Y1 x2 y2, join _ _ _ _ X1 Y1 hx hy x1 y1⟩, imp _ _ _ _ hx hy X1 Y1 x1 y2, imp _ _ _ _ X1 Y1 hx hy x2 y1⟩
/-- the kernel -/
theorem qt_ker {A O I : List (List Nat)} {b t m : Nat} (h : HyT A O I b t) (hm : m < 2 ^ (ordH A).length) (hf : isFl (ordH A) m) {x : Nat} (hx : x < A.length) :
    (hcl (ordH A) m).getD x 0 = (hcl (ordH A) m).getD t 0 ↔ m.testBit x = true := by
  have hl := ordH_length A
  have HH := h.ha
  have hxt := h.gt hx
  have tl := h.tl
  rw [← hl] at hx tl
  rw [hcl_eq HH hm hf hx tl]
  constructor
  · rintro ⟨-, q⟩
    obtain ⟨f, fl, fm, hh⟩ := (px_iff HH hm hf tl hx).1 q
    exact fl_up hm hf fm (hh f fl (HH.rf f fl) (h.gt (by omega)))
  · intro q
    exact ⟨px_le HH hm hf hx tl hxt, (px_iff HH hm hf tl hx).2 ⟨x, hx, q, fun u _ h1 _ => h1⟩⟩
/-- the filters are what lies above an element -/
theorem flt_cone {ns : List Nat} (h : HA ns) {x : Nat} (hx : x < ns.length) : flt ns (ns.getD x 0) = ns.getD x 0 := by
  obtain ⟨t, ht, htl, htt⟩ := h.t
  obtain ⟨q1, q2⟩ := fld_spec h (mb (ns.getD x 0) ns.length) (fun y hy => (mb_iff.1 hy).1) t htl
  unfold flt
  rw [ht, Int.toNat_natCast]
  have e1 : Le ns (fld ns t (mb (ns.getD x 0) ns.length)) x := ((q2 _ q1).1 (h.rf _ q1)).2 x (mb_iff.2 ⟨hx, h.rf x hx⟩)
  have e2 : Le ns x (fld ns t (mb (ns.getD x 0) ns.length)) := (q2 x hx).2 ⟨htt x hx, fun y hy => (mb_iff.1 hy).2⟩
  rw [h.an _ _ q1 hx e1 e2]
theorem flt_mem (ns : List Nat) (h : HA ns) (m : Nat) : flt ns m ∈ ns := by
  obtain ⟨t, ht, htl, htt⟩ := h.t
  obtain ⟨q1, -⟩ := fld_spec h (mb m ns.length) (fun y hy => (mb_iff.1 hy).1) t htl
  unfold flt
  rw [ht, Int.toNat_natCast, getD_at q1]
  exact List.getElem_mem _
theorem flt_in {ns : List Nat} (h : HA ns) (m : Nat) : flt ns m = m ↔ m ∈ ns := by
  constructor
  · intro e
    rw [← e]
    exact flt_mem ns h m
  · intro e
    obtain ⟨i, hi, rfl⟩ := List.mem_iff_getElem.1 e
    rw [← getD_at hi]
    exact flt_cone h hi
end Go.Proofs.YtgkogfjifcfkoaaGreat

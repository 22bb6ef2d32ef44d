/- Joined of several texts: M07, M07b, M07c, M07q. -/
import Derived.Test.YtaigiopoogbbbaaGreatY45
namespace Go.Proofs.YtaigiopoogbbbaaGreat
open Go.RowKit
set_option linter.unusedVariables false
set_option linter.unusedSimpArgs false
/- Plain words of chapter 7: bisimulations. No program in sight. -/
/-- a frame with six values -/
structure MdN (ns us : List Nat) : Prop where
  r : RelN ns
  l : us.length = 6
  b : ∀ x ∈ us, x < 2 ^ ns.length
theorem MdN.u256 {ns us : List Nat} (h : MdN ns us) (i : Nat) : us.getD i 0 < 256 := Nat.lt_of_lt_of_le (getD_lt h.b i) (two_pow_256 h.r.1)
theorem MdN.n256 {ns us : List Nat} (h : MdN ns us) (i : Nat) : ns.getD i 0 < 256 := Nat.lt_of_lt_of_le (getD_lt h.r.2 i) (two_pow_256 h.r.1)
/-- the variables that are true at a world -/
def tru (us : List Nat) (x : Nat) : Nat := msk (fun v => (us.getD v 0).testBit x) 6
def atm (us ts : List Nat) (x y : Nat) : Bool := (List.range 6).all fun v => (us.getD v 0).testBit x == (ts.getD v 0).testBit y
theorem atm_tru (us ts : List Nat) (x y : Nat) : atm us ts x y = decide (tru us x = tru ts y) := by
  rw [Bool.eq_iff_iff, decide_eq_true_eq]
  unfold atm
  rw [List.all_eq_true]
  constructor
  · intro h
    exact msk_congr _ _ 6 fun i hi => by simpa using h i (List.mem_range.2 hi)
  · intro h v hv
    have := congrArg (fun n => n.testBit v) h
    rw [List.mem_range] at hv
    simp only [tru, msk_testBit, hv, decide_true, Bool.true_and] at this
    simpa using this
/-- each member of a mask is linked to a member of another one -/
def frt (lk : List Nat) (a b : Nat) : Bool := (List.range lk.length).all fun s => !(a.testBit s && decide (lk.getD s 0 &&& b = 0))
def bck (lk : List Nat) (a b : Nat) : Bool := decide (andnot b (img lk a) = 0)
theorem mems_iff {m : Nat} {x : Int} : x ∈ mems m ↔ ∃ i : Nat, i < 64 ∧ m.testBit i = true ∧ x = i := by
  unfold mems memsTo
  rw [List.mem_map]
  constructor
  · rintro ⟨i, hi, rfl⟩
    rw [List.mem_filter, List.mem_range] at hi
    exact ⟨i, hi.1, hi.2, rfl⟩
  · rintro ⟨i, h1, h2, rfl⟩
    exact ⟨i, List.mem_filter.2 ⟨List.mem_range.2 h1, h2⟩, rfl⟩
theorem bit_lt {m n i : Nat} (hm : m < 2 ^ n) (h : m.testBit i = true) : i < n := by
  rcases Nat.lt_or_ge i n with h1 | h1
  · exact h1
  · rw [Nat.testBit_lt_two_pow (Nat.lt_of_lt_of_le hm (Nat.pow_le_pow_right (by decide) h1))] at h; cases h
theorem frt_mems (lk : List Nat) (a b : Nat) (ha : a < 2 ^ lk.length) (h8 : lk.length ≤ 8) : frt lk a b = (mems a).all fun x => !decide (lk.getD x.toNat 0 &&& b = 0) := by
  rw [Bool.eq_iff_iff]
  unfold frt
  rw [List.all_eq_true, List.all_eq_true]
  constructor
  · intro h x hx
    obtain ⟨i, h1, h2, rfl⟩ := mems_iff.1 hx
    have := h i (List.mem_range.2 (bit_lt ha h2))
    rw [h2, Bool.true_and] at this
    rw [Int.toNat_natCast]
    exact this
  · intro h s hs
    rw [List.mem_range] at hs
    cases hb : a.testBit s
    · rfl
    · have := h s (mems_iff.2 ⟨s, by omega, hb, rfl⟩)
      rw [Int.toNat_natCast] at this
      rw [Bool.true_and]
      exact this
def orL (lk : List Nat) : List Int → Nat
  | [] => 0
  | x :: t => orL lk t ||| lk.getD x.toNat 0
theorem orL_bit (lk : List Nat) (l : List Int) (b : Nat) : (orL lk l).testBit b = true ↔ ∃ x ∈ l, (lk.getD x.toNat 0).testBit b = true := by
  induction l with
  | nil => simp [orL]
  | cons x t ih =>
    rw [orL, Nat.testBit_or, Bool.or_eq_true, ih]
    simp [or_comm]
theorem orL_lt {lk : List Nat} {n : Nat} (h : ∀ x ∈ lk, x < 2 ^ n) (l : List Int) : orL lk l < 2 ^ n := by
  induction l with
  | nil => exact Nat.pow_pos (by decide)
  | cons x t ih => exact Nat.or_lt_two_pow ih (getD_lt h _)
theorem orL_snoc (lk : List Nat) (l : List Int) (x : Int) : orL lk (l ++ [x]) = orL lk l ||| lk.getD x.toNat 0 := by
  apply Nat.eq_of_testBit_eq
  intro b
  rw [Bool.eq_iff_iff, Nat.testBit_or, Bool.or_eq_true, orL_bit, orL_bit]
  simp [or_and_right, exists_or]
theorem orL_img (lk : List Nat) (m : Nat) (hm : m < 2 ^ lk.length) (h8 : lk.length ≤ 8) : orL lk (mems m) = img lk m := by
  apply Nat.eq_of_testBit_eq
  intro b
  unfold img
  rw [Bool.eq_iff_iff, orL_bit, imgTo_bit]
  constructor
  · rintro ⟨x, hx, hb⟩
    obtain ⟨i, h1, h2, rfl⟩ := mems_iff.1 hx
    rw [Int.toNat_natCast] at hb
    exact ⟨i, bit_lt hm h2, h2, hb⟩
  · rintro ⟨i, h1, h2, h3⟩
    exact ⟨i, mems_iff.2 ⟨i, by omega, h2, rfl⟩, by rw [Int.toNat_natCast]; exact h3⟩
/-- the link of the worlds for which a condition holds -/
def lnk (n k : Nat) (p : Nat → Nat → Bool) : List Nat := (List.range n).map fun x => msk (p x) k
theorem lnk_length (n k : Nat) (p : Nat → Nat → Bool) : (lnk n k p).length = n := by simp [lnk]
theorem lnk_lt (n k : Nat) (p : Nat → Nat → Bool) : ∀ x ∈ lnk n k p, x < 2 ^ k := by
  intro x hx
  unfold lnk at hx
  rw [List.mem_map] at hx
  obtain ⟨i, -, rfl⟩ := hx
  exact msk_lt _ _
theorem lnk_getD {n k x : Nat} (p : Nat → Nat → Bool) (h : x < n) : (lnk n k p).getD x 0 = msk (p x) k := by
  unfold lnk
  rw [List.getD_eq_getElem?_getD, List.getElem?_map, List.getElem?_range h]
  rfl
def hol (ns us ks ts lk : List Nat) (x y : Nat) : Bool := atm us ts x y && (frt lk (ns.getD x 0) (ks.getD y 0) && bck lk (ns.getD x 0) (ks.getD y 0))
/-- the links of the worlds that are bisimilar in so many rounds -/
def bnd (ns us ks ts : List Nat) : Nat → List Nat
  | 0 => lnk ns.length ks.length (atm us ts)
  | k + 1 => lnk ns.length ks.length (hol ns us ks ts (bnd ns us ks ts k))
theorem bnd_length (ns us ks ts : List Nat) (k : Nat) : (bnd ns us ks ts k).length = ns.length := by
  cases k <;> exact lnk_length _ _ _
theorem bnd_lt (ns us ks ts : List Nat) (k : Nat) : ∀ x ∈ bnd ns us ks ts k, x < 2 ^ ks.length := by
  cases k <;> exact lnk_lt _ _ _
theorem lnk_congr {n k : Nat} {p q : Nat → Nat → Bool} (h : ∀ x < n, ∀ y < k, p x y = q x y) : lnk n k p = lnk n k q := by
  unfold lnk
  refine List.map_congr_left fun x hx => ?_
  exact msk_congr _ _ _ fun y hy => h x (List.mem_range.1 hx) y hy
/- Plain law of chapter 7: the links of a model with itself are equivalences. No program in sight. -/
theorem and_ne_zero (a b : Nat) : ¬ a &&& b = 0 ↔ ∃ t, a.testBit t = true ∧ b.testBit t = true := by
  constructor
  · intro h
    obtain ⟨t, ht⟩ := Nat.exists_testBit_of_ne_zero h
    rw [Nat.testBit_and, Bool.and_eq_true] at ht
    exact ⟨t, ht⟩
  · rintro ⟨t, h1, h2⟩ h
    have := congrArg (fun n => n.testBit t) h
    simp [Nat.testBit_and, h1, h2] at this
theorem frt_iff (lk : List Nat) (a b : Nat) : frt lk a b = true ↔ ∀ s, s < lk.length → a.testBit s = true → ∃ t, (lk.getD s 0).testBit t = true ∧ b.testBit t = true := by
  unfold frt
  rw [List.all_eq_true]
  constructor
  · intro h s hs ha
    have := h s (List.mem_range.2 hs)
    rw [ha, Bool.true_and, Bool.not_eq_true', decide_eq_false_iff_not] at this
    exact (and_ne_zero _ _).1 this
  · intro h s hs
    rw [List.mem_range] at hs
    cases ha : a.testBit s
    · rfl
    · rw [Bool.true_and, Bool.not_eq_true', decide_eq_false_iff_not]
      exact (and_ne_zero _ _).2 (h s hs ha)
theorem bck_iff (lk : List Nat) (a b : Nat) : bck lk a b = true ↔ ∀ t, b.testBit t = true → ∃ s, s < lk.length ∧ a.testBit s = true ∧ (lk.getD s 0).testBit t = true := by
  unfold bck img
  rw [decide_eq_true_eq, andnot_zero]
  constructor
  · intro h t ht; exact (imgTo_bit _ _ _ _).1 (h t ht)
  · intro h t ht; exact (imgTo_bit _ _ _ _).2 (h t ht)
theorem bnd_bit0 (ns us : List Nat) {x y : Nat} (hx : x < ns.length) (hy : y < ns.length) : ((bnd ns us ns us 0).getD x 0).testBit y = atm us us x y := by
  unfold bnd
  rw [lnk_getD _ hx, msk_testBit, decide_eq_true hy, Bool.true_and]
theorem bnd_bit (ns us : List Nat) (k : Nat) {x y : Nat} (hx : x < ns.length) (hy : y < ns.length) : ((bnd ns us ns us (k + 1)).getD x 0).testBit y = hol ns us ns us (bnd ns us ns us k) x y := by
  rw [bnd, lnk_getD _ hx, msk_testBit, decide_eq_true hy, Bool.true_and]
/-- the worlds x and y are linked in k rounds -/
def rel (ns us : List Nat) (k x y : Nat) : Prop := ((bnd ns us ns us k).getD x 0).testBit y = true
theorem hol_iff (ns us : List Nat) (h : RelN ns) (k x y : Nat) : hol ns us ns us (bnd ns us ns us k) x y = true ↔ atm us us x y = true ∧
    (∀ s, s < ns.length → (ns.getD x 0).testBit s = true → ∃ t, t < ns.length ∧ rel ns us k s t ∧ (ns.getD y 0).testBit t = true) ∧
    (∀ t, t < ns.length → (ns.getD y 0).testBit t = true → ∃ s, s < ns.length ∧ (ns.getD x 0).testBit s = true ∧ rel ns us k s t) := by
  unfold hol
  rw [Bool.and_eq_true, Bool.and_eq_true, frt_iff, bck_iff, bnd_length]
  constructor
  · rintro ⟨h1, h2, h3⟩
    refine ⟨h1, fun s hs ha => ?_, fun t ht hb => ?_⟩
    · obtain ⟨t, p, q⟩ := h2 s hs ha
      exact ⟨t, bit_lt (getD_lt h.2 y) q, p, q⟩
    · obtain ⟨s, p, q, r⟩ := h3 t hb
      exact ⟨s, p, q, r⟩
  · rintro ⟨h1, h2, h3⟩
    refine ⟨h1, fun s hs ha => ?_, fun t hb => ?_⟩
    · obtain ⟨t, p, q, r⟩ := h2 s hs ha
      exact ⟨t, q, r⟩
    · exact h3 t (bit_lt (getD_lt h.2 y) hb) hb
theorem atm_refl (us : List Nat) (x : Nat) : atm us us x x = true := by rw [atm_tru]; simp
theorem atm_symm {us : List Nat} {x y : Nat} (h : atm us us x y = true) : atm us us y x = true := by
  rw [atm_tru, decide_eq_true_eq] at h ⊢; exact h.symm
theorem atm_trans {us : List Nat} {x y z : Nat} (h : atm us us x y = true) (h' : atm us us y z = true) : atm us us x z = true := by
  rw [atm_tru, decide_eq_true_eq] at h h' ⊢; exact h.trans h'
theorem rel_eqv (ns us : List Nat) (h : RelN ns) (k : Nat) :
    (∀ x, x < ns.length → rel ns us k x x) ∧ (∀ x y, x < ns.length → y < ns.length → rel ns us k x y → rel ns us k y x) ∧
    (∀ x y z, x < ns.length → y < ns.length → z < ns.length → rel ns us k x y → rel ns us k y z → rel ns us k x z) := by
  induction k with
  | zero =>
    unfold rel
    refine ⟨fun x hx => ?_, fun x y hx hy hr => ?_, fun x y z hx hy hz h1 h2 => ?_⟩
    · rw [bnd_bit0 ns us hx hx]; exact atm_refl us x
    · rw [bnd_bit0 ns us hx hy] at hr; rw [bnd_bit0 ns us hy hx]; exact atm_symm hr
    · rw [bnd_bit0 ns us hx hy] at h1; rw [bnd_bit0 ns us hy hz] at h2; rw [bnd_bit0 ns us hx hz]; exact atm_trans h1 h2
  | succ k ih =>
    obtain ⟨ir, is, it⟩ := ih
    have key : ∀ {x y}, x < ns.length → y < ns.length → (rel ns us (k + 1) x y ↔ hol ns us ns us (bnd ns us ns us k) x y = true) := fun hx hy => by
      unfold rel; rw [bnd_bit ns us k hx hy]
    refine ⟨fun x hx => ?_, fun x y hx hy hr => ?_, fun x y z hx hy hz h1 h2 => ?_⟩
    · rw [key hx hx, hol_iff ns us h]
      exact ⟨atm_refl us x, fun s hs ha => ⟨s, hs, ir s hs, ha⟩, fun t ht hb => ⟨t, ht, hb, ir t ht⟩⟩
    · rw [key hx hy, hol_iff ns us h] at hr
      rw [key hy hx, hol_iff ns us h]
      obtain ⟨a, f, b⟩ := hr
      refine ⟨atm_symm a, fun s hs ha => ?_, fun t ht hb => ?_⟩
      · obtain ⟨u, p, q, r⟩ := b s hs ha
        exact ⟨u, p, is u s p hs r, q⟩
      · obtain ⟨u, p, q, r⟩ := f t ht hb
        exact ⟨u, p, r, is t u ht p q⟩
    · rw [key hx hy, hol_iff ns us h] at h1
      rw [key hy hz, hol_iff ns us h] at h2
      rw [key hx hz, hol_iff ns us h]
      obtain ⟨a, f, b⟩ := h1
      obtain ⟨a', f', b'⟩ := h2
      refine ⟨atm_trans a a', fun s hs ha => ?_, fun t ht hb => ?_⟩
      · obtain ⟨u, p, q, r⟩ := f s hs ha
        obtain ⟨v, p', q', r'⟩ := f' u p r
        exact ⟨v, p', it s u v hs p p' q q', r'⟩
      · obtain ⟨u, p, q, r⟩ := b' t ht hb
        obtain ⟨v, p', q', r'⟩ := b u p q
        exact ⟨v, p', q', it v u t p' p ht r' r⟩
/-- linked worlds have one row -/
theorem rel_row (ns us : List Nat) (h : RelN ns) (k : Nat) {x y : Nat} (hx : x < ns.length) (hy : y < ns.length) :
    ((bnd ns us ns us k).getD y 0).testBit x = decide ((bnd ns us ns us k).getD y 0 = (bnd ns us ns us k).getD x 0) := by
  obtain ⟨ir, is, it⟩ := rel_eqv ns us h k
  rw [Bool.eq_iff_iff, decide_eq_true_eq]
  constructor
  · intro hr
    refine msk_ext ns.length (getD_lt (bnd_lt ns us ns us k) y) (getD_lt (bnd_lt ns us ns us k) x) fun z hz => ?_
    rw [Bool.eq_iff_iff]
    exact ⟨fun h1 => it x y z hx hy hz (is y x hy hx hr) h1, fun h1 => it y x z hy hx hz hr h1⟩
  · intro e
    rw [e]
    exact ir x hx
/-- the number of the class of each of the first x elements, and the number of classes: elements with one key are in one class -/
def dvd (key : Nat → Nat) : Nat → List Nat × Nat
  | 0 => ([], 0)
  | x + 1 => match (List.range x).find? (fun y => decide (key y = key x)) with
    | some y => ((dvd key x).1 ++ [(dvd key x).1.getD y 0], (dvd key x).2)
    | none => ((dvd key x).1 ++ [(dvd key x).2], (dvd key x).2 + 1)
theorem dvd_length (key : Nat → Nat) (x : Nat) : (dvd key x).1.length = x := by
  induction x with
  | zero => rfl
  | succ x ih => rw [dvd]; split <;> simp [ih]
theorem dvd_count (key : Nat → Nat) (x : Nat) : (dvd key x).2 ≤ x := by
  induction x with
  | zero => exact Nat.le_refl _
  | succ x ih => rw [dvd]; split <;> simp <;> omega
theorem dvd_lt (key : Nat → Nat) (x : Nat) : ∀ c ∈ (dvd key x).1, c < (dvd key x).2 := by
  induction x with
  | zero => intro c hc; simp [dvd] at hc
  | succ x ih =>
    intro c hc
    rw [dvd] at hc ⊢
    cases hf : (List.range x).find? (fun y => decide (key y = key x)) with
    | some y =>
      rw [hf] at hc
      simp only [List.mem_append, List.mem_singleton] at hc ⊢
      rcases hc with hc | hc
      · exact ih c hc
      · have hy := List.mem_of_find?_eq_some hf
        rw [List.mem_range] at hy
        rw [hc, List.getD_eq_getElem?_getD, List.getElem?_eq_getElem (by rw [dvd_length]; exact hy)]
        exact ih _ (List.getElem_mem _)
    | none =>
      rw [hf] at hc
      simp only [List.mem_append, List.mem_singleton] at hc ⊢
      rcases hc with hc | hc
      · have := ih c hc; omega
      · omega
/- Plain law of chapter 7: the map of divided after j elements. No program in sight. -/
/-- the class of the first of j elements with a key -/
def fst (key : Nat → Nat) (j a : Nat) : Option Nat := ((List.range j).find? (fun y => decide (key y = a))).map fun y => (dvd key j).1.getD y 0
theorem dvd_keep (key : Nat → Nat) (j y : Nat) (h : y < j) : (dvd key (j + 1)).1.getD y 0 = (dvd key j).1.getD y 0 := by
  have hl := dvd_length key j
  rw [dvd]
  split <;> simp only <;> rw [List.getD_eq_getElem?_getD, List.getElem?_append_left (by omega), ← List.getD_eq_getElem?_getD]
theorem fst_known {key : Nat → Nat} {j y : Nat} (h : (List.range j).find? (fun z => decide (key z = key j)) = some y) : fst key j (key j) = some ((dvd key j).1.getD y 0) := by
  unfold fst; rw [h]; rfl
theorem fst_new {key : Nat → Nat} {j : Nat} (h : (List.range j).find? (fun z => decide (key z = key j)) = none) : fst key j (key j) = none := by
  unfold fst; rw [h]; rfl
theorem fst_old {key : Nat → Nat} {j a y : Nat} (h : (List.range j).find? (fun z => decide (key z = a)) = some y) : fst key (j + 1) a = fst key j a := by
  have hy := List.mem_range.1 (List.mem_of_find?_eq_some h)
  unfold fst
  rw [List.range_succ, List.find?_append, h]
  show some ((dvd key (j + 1)).1.getD y 0) = some ((dvd key j).1.getD y 0)
  rw [dvd_keep key j y hy]
theorem fst_none {key : Nat → Nat} {j a : Nat} (h : (List.range j).find? (fun z => decide (key z = a)) = none) (hne : ¬ key j = a) : fst key (j + 1) a = fst key j a := by
  unfold fst
  rw [List.range_succ, List.find?_append, h]
  simp [hne]
theorem fst_step_known {key : Nat → Nat} {j y : Nat} (h : (List.range j).find? (fun z => decide (key z = key j)) = some y) : fst key (j + 1) = fst key j := by
  funext a
  cases ha : (List.range j).find? (fun z => decide (key z = a)) with
  | some z => exact fst_old ha
  | none => exact fst_none ha (fun e => by subst e; rw [h] at ha; cases ha)
theorem fst_step_new {key : Nat → Nat} {j : Nat} (h : (List.range j).find? (fun z => decide (key z = key j)) = none) : fst key (j + 1) = fun a => if a = key j then some (dvd key j).2 else fst key j a := by
  funext a
  by_cases he : a = key j
  · subst he
    rw [if_pos rfl]
    unfold fst
    rw [List.range_succ, List.find?_append, h]
    have hl := dvd_length key j
    have : (dvd key (j + 1)).1.getD j 0 = (dvd key j).2 := by
      rw [dvd, h]
      simp only
      rw [List.getD_eq_getElem?_getD, List.getElem?_append_right (by omega), hl]
      simp
    rw [List.getD_eq_getElem?_getD] at this
    simp [this]
  · rw [if_neg he]
    cases ha : (List.range j).find? (fun z => decide (key z = a)) with
    | some z => exact fst_old ha
    | none => exact fst_none ha (fun e => he e.symm)
/- Plain words of chapter 7: quotients. No program in sight. -/
/-- the masks of the single numbers of a list -/
def pw (cl : List Nat) : List Nat := cl.map fun c => 2 ^ c
theorem pw_length (cl : List Nat) : (pw cl).length = cl.length := by simp [pw]
theorem pw_getD {cl : List Nat} {i : Nat} (h : i < cl.length) : (pw cl).getD i 0 = 2 ^ cl.getD i 0 := by
  unfold pw
  rw [List.getD_eq_getElem?_getD, List.getElem?_map, List.getD_eq_getElem?_getD, List.getElem?_eq_getElem h]
  rfl
theorem pw_lt {cl : List Nat} {n : Nat} (h : ∀ c ∈ cl, c < n) : ∀ x ∈ pw cl, x < 2 ^ n := by
  intro x hx
  unfold pw at hx
  rw [List.mem_map] at hx
  obtain ⟨c, hc, rfl⟩ := hx
  exact Nat.pow_lt_pow_right (by decide) (h c hc)
/-- the number of the classes -/
def mx (cl : List Nat) : Nat → Nat
  | 0 => 0
  | k + 1 => max (mx cl k) (cl.getD k 0 + 1)
theorem mx_mono (cl : List Nat) (k j : Nat) (h : k ≤ j) : mx cl k ≤ mx cl j := by
  induction j with
  | zero => obtain rfl : k = 0 := by omega
            exact Nat.le_refl _
  | succ j ih =>
    rcases Nat.lt_or_ge k (j + 1) with h1 | h1
    · have := ih (by omega); rw [mx]; omega
    · obtain rfl : k = j + 1 := by omega
      exact Nat.le_refl _
theorem mx_gt (cl : List Nat) {k i : Nat} (h : i < k) : cl.getD i 0 < mx cl k := by
  have := mx_mono cl (i + 1) k h
  rw [mx] at this
  omega
theorem mx_mem (cl : List Nat) : ∀ c ∈ cl, c < mx cl cl.length := by
  intro c hc
  obtain ⟨i, hi, rfl⟩ := List.mem_iff_getElem.1 hc
  have := mx_gt cl hi
  rwa [List.getD_eq_getElem?_getD, List.getElem?_eq_getElem hi] at this
theorem mx_le (cl : List Nat) (n k : Nat) (h : ∀ i, i < k → cl.getD i 0 < n) : mx cl k ≤ n := by
  induction k with
  | zero => exact Nat.zero_le _
  | succ k ih =>
    have h1 := ih fun i hi => h i (by omega)
    have h2 := h k (by omega)
    rw [mx]; omega
theorem getD_mem {cl : List Nat} {i : Nat} (h : i < cl.length) : cl.getD i 0 ∈ cl := by
  rw [List.getD_eq_getElem?_getD, List.getElem?_eq_getElem h]
  exact List.getElem_mem h
/-- one store more: member c of the list gets v besides -/
def qst (o : List Nat) (c v : Nat) : List Nat := o.set c (o.getD c 0 ||| v)
theorem qst_length (o : List Nat) (c v : Nat) : (qst o c v).length = o.length := by simp [qst]
theorem qst_zero (o : List Nat) (c : Nat) : qst o c 0 = o := by
  unfold qst
  rw [Nat.or_zero]
  apply List.ext_getElem? 
  intro i
  rw [List.getElem?_set]
  split
  · rename_i h
    subst h
    split
    · rename_i h; rw [List.getD_eq_getElem?_getD, List.getElem?_eq_getElem h]; rfl
    · rename_i h; rw [List.getElem?_eq_none (by omega)]
  · rfl
theorem qst_qst (o : List Nat) (c u v : Nat) (h : c < o.length) : qst (qst o c u) c v = qst o c (u ||| v) := by
  unfold qst
  rw [List.set_set, getD_set, if_pos ⟨rfl, h⟩, Nat.or_assoc]
theorem qst_lt {o : List Nat} {n : Nat} (h : ∀ x ∈ o, x < 2 ^ n) (c : Nat) {v : Nat} (hv : v < 2 ^ n) : ∀ x ∈ qst o c v, x < 2 ^ n :=
  set_lt h _ _ (Nat.or_lt_two_pow (getD_lt h c) hv)
/-- the relation of n classes, made of the first k rows -/
def qrl (cl a : List Nat) (n : Nat) : Nat → List Nat
  | 0 => List.replicate n 0
  | k + 1 => qst (qrl cl a n k) (cl.getD k 0) (img (pw cl) (a.getD k 0))
theorem qrl_length (cl a : List Nat) (n k : Nat) : (qrl cl a n k).length = n := by
  induction k with
  | zero => simp [qrl]
  | succ k ih => rw [qrl, qst_length, ih]
theorem img_pw_lt {cl : List Nat} {n : Nat} (h : ∀ c ∈ cl, c < n) (m : Nat) : img (pw cl) m < 2 ^ n := imgTo_lt (pw_lt h) _ _
theorem qrl_lt {cl : List Nat} (a : List Nat) {n : Nat} (h : ∀ c ∈ cl, c < n) (k : Nat) : ∀ x ∈ qrl cl a n k, x < 2 ^ n := by
  induction k with
  | zero => intro x hx; rw [qrl] at hx; rw [List.eq_of_mem_replicate hx]; exact Nat.pow_pos (by decide)
  | succ k ih => exact qst_lt ih _ (img_pw_lt h _)
/-- the values of the classes -/
def qvl (cl us : List Nat) : List Nat := us.map fun u => img (pw cl) u
theorem qvl_length (cl us : List Nat) : (qvl cl us).length = us.length := by simp [qvl]
theorem qvl_lt {cl us : List Nat} {n : Nat} (h : ∀ c ∈ cl, c < n) : ∀ x ∈ qvl cl us, x < 2 ^ n := by
  intro x hx
  unfold qvl at hx
  rw [List.mem_map] at hx
  obtain ⟨u, -, rfl⟩ := hx
  exact img_pw_lt h _
/-- the values after x worlds, the first v of them after one world more -/
def qvp (cl us : List Nat) (x v : Nat) : List Nat := (List.range us.length).map fun i => imgTo (pw cl) (us.getD i 0) (if i < v then x + 1 else x)
theorem qvp_length (cl us : List Nat) (x v : Nat) : (qvp cl us x v).length = us.length := by simp [qvp]
theorem qvp_getD (cl us : List Nat) (x v : Nat) {i : Nat} (h : i < us.length) : (qvp cl us x v).getD i 0 = imgTo (pw cl) (us.getD i 0) (if i < v then x + 1 else x) := by
  unfold qvp
  rw [List.getD_eq_getElem?_getD, List.getElem?_map, List.getElem?_range h]
  rfl
theorem qvp_zero (cl us : List Nat) : qvp cl us 0 0 = List.replicate us.length 0 := by
  apply List.ext_getElem (by simp [qvp])
  intro i h1 h2
  simp [qvp, imgTo]
theorem qvp_next (cl us : List Nat) (x : Nat) : qvp cl us x us.length = qvp cl us (x + 1) 0 := by
  unfold qvp
  refine List.map_congr_left fun i hi => ?_
  rw [if_pos (List.mem_range.1 hi), if_neg (by omega)]
theorem qvp_done (cl us : List Nat) : qvp cl us cl.length 0 = qvl cl us := by
  apply List.ext_getElem (by simp [qvp, qvl])
  intro i h1 h2
  simp [qvp, qvl, img, pw_length]
  have hi : i < us.length := by simpa [qvp] using h1
  simp [hi]
theorem qvp_step (cl us : List Nat) (x v : Nat) (hv : v < us.length) (hx : x < cl.length) :
    qvp cl us x (v + 1) = if (us.getD v 0).testBit x then qst (qvp cl us x v) v (2 ^ cl.getD x 0) else qvp cl us x v := by
  have key : ∀ i, i < us.length → (qvp cl us x (v + 1)).getD i 0 = (if (us.getD v 0).testBit x then qst (qvp cl us x v) v (2 ^ cl.getD x 0) else qvp cl us x v).getD i 0 := by
    intro i hi
    rw [qvp_getD cl us x (v + 1) hi]
    by_cases hiv : i = v
    · subst hiv
      rw [if_pos (by omega), imgTo]
      split
      · rw [qst, getD_set, if_pos ⟨rfl, by rw [qvp_length]; exact hi⟩, qvp_getD cl us x i hi, if_neg (by omega), pw_getD hx]
      · rw [qvp_getD cl us x i hi, if_neg (by omega), Nat.or_zero]
    · have e : (if i < v + 1 then x + 1 else x) = (if i < v then x + 1 else x) := by
        by_cases h1 : i < v
        · rw [if_pos h1, if_pos (by omega)]
        · rw [if_neg h1, if_neg (by omega)]
      rw [e]
      by_cases hbt : (us.getD v 0).testBit x = true
      · rw [if_pos hbt, qst, getD_set, if_neg (show ¬ (v = i ∧ v < (qvp cl us x v).length) from fun h => hiv h.1.symm), qvp_getD cl us x v hi]
      · rw [if_neg hbt, qvp_getD cl us x v hi]
  have hl : (qvp cl us x (v + 1)).length = (if (us.getD v 0).testBit x then qst (qvp cl us x v) v (2 ^ cl.getD x 0) else qvp cl us x v).length := by
    split
    · rw [qst_length, qvp_length, qvp_length]
    · rw [qvp_length, qvp_length]
  apply List.ext_getElem hl
  intro i h1 h2
  have := key i (by simpa [qvp] using h1)
  rwa [List.getD_eq_getElem?_getD, List.getD_eq_getElem?_getD, List.getElem?_eq_getElem h1, List.getElem?_eq_getElem h2] at this
theorem imgTo_pw_step {cl : List Nat} (m : Nat) {y : Nat} (hy : y < cl.length) : imgTo (pw cl) m (y + 1) = if m.testBit y then imgTo (pw cl) m y ||| 2 ^ cl.getD y 0 else imgTo (pw cl) m y := by
  rw [imgTo, pw_getD hy]
  split
  · rfl
  · rw [Nat.or_zero]
end Go.Proofs.YtaigiopoogbbbaaGreat

/- Plain law of chapters 1 and 5: the transitive closure, what is reached from a world, parts of masks. No program in sight. -/
import Derived.Test.YtkdldfomdbgcaaaGreatSA
namespace Go.Proofs.YtkdldfomdbgcaaaGreat
set_option linter.unusedVariables false
set_option linter.unusedSimpArgs false
/-- does element i see element j? -/
def se (o : List Nat) (i j : Nat) : Bool := (o.getD i 0).testBit j
theorem cst_se (o : List Nat) (k i a b : Nat) (hi : i < o.length) : se (cst o k i) a b = (se o a b || (decide (a = i) && se o i k && se o k b)) := by
  unfold cst se
  by_cases h : (o.getD i 0).testBit k = true
  · rw [if_pos h, getD_set]
    by_cases ha : i = a
    · subst ha
      rw [if_pos ⟨rfl, hi⟩, Nat.testBit_or, h]; simp
    · rw [if_neg (fun h => ha h.1)]
      have : ¬ a = i := fun e => ha e.symm
      simp [this]
  · rw [if_neg h]
    have : (o.getD i 0).testBit k = false := by simpa using h
    rw [this]; simp
/-- one round of the closure: the rows below m are done -/
theorem cin_se (o : List Nat) (k m : Nat) (hm : m ≤ o.length) (a b : Nat) : se (cin o k m) a b = (se o a b || (decide (a < m) && se o a k && se o k b)) := by
  induction m generalizing a b with
  | zero => simp [cin]
  | succ m ih =>
    have ih := fun a b => ih (by omega) a b
    rw [cin, cst_se _ _ _ _ _ (by rw [cin_length]; omega), ih, ih, ih]
    by_cases ha : a < m
    · have h1 : ¬ a = m := by omega
      have h2 : a < m + 1 := by omega
      simp [ha, h1, h2]
    · by_cases hb : a = m
      · subst hb
        have h2 : a < a + 1 := by omega
        simp [h2]
        cases se o a b <;> cases se o a k <;> cases se o k b <;> cases se o k k <;> simp
      · have h2 : ¬ a < m + 1 := by omega
        simp [ha, hb, h2]
theorem clo_se (o : List Nat) (k a b : Nat) (ha : a < o.length) : se (clo o (k + 1)) a b = (se (clo o k) a b || (se (clo o k) a k && se (clo o k) k b)) := by
  rw [clo, cin_se _ _ _ (by rw [clo_length]; exact Nat.le_refl _), decide_eq_true ha, Bool.true_and]
theorem clo_step_tra (o : List Nat) (h8 : ∀ x ∈ o, x < 2 ^ o.length) (k : Nat) (hk : k ≤ o.length) : ∀ i j m, i < o.length → m < k → se (clo o k) i m = true → se (clo o k) m j = true → se (clo o k) i j = true := by
  induction k with
  | zero => intro i j m hi hm; omega
  | succ k ih =>
    have T := ih (by omega)
    intro i j m hi hm h1 h2
    have hml : m < o.length := by omega
    rw [clo_se o k _ _ hi, Bool.or_eq_true, Bool.and_eq_true] at h1
    rw [clo_se o k _ _ hml, Bool.or_eq_true, Bool.and_eq_true] at h2
    rw [clo_se o k _ _ hi, Bool.or_eq_true, Bool.and_eq_true]
    have hkl : k < o.length := by omega
    rcases Nat.lt_or_ge m k with hmk | hmk
    · rcases h1 with h1 | ⟨h1, h1'⟩
      · rcases h2 with h2 | ⟨h2, h2'⟩
        · exact .inl (T i j m hi hmk h1 h2)
        · exact .inr ⟨T i k m hi hmk h1 h2, h2'⟩
      · rcases h2 with h2 | ⟨h2, h2'⟩
        · exact .inr ⟨h1, T k j m hkl hmk h1' h2⟩
        · exact .inr ⟨h1, h2'⟩
    · obtain rfl : m = k := by omega
      have e1 : se (clo o m) i m = true := by rcases h1 with h1 | ⟨h1, _⟩ <;> exact h1
      have e2 : se (clo o m) m j = true := by rcases h2 with h2 | ⟨_, h2⟩ <;> exact h2
      exact .inr ⟨e1, e2⟩
theorem clo_lt' (o : List Nat) (h : ∀ x ∈ o, x < 2 ^ o.length) (k : Nat) : ∀ x ∈ clo o k, x < 2 ^ o.length := clo_lt h k
theorem se_lt {o : List Nat} {n i j : Nat} (h : ∀ x ∈ o, x < 2 ^ n) (hs : se o i j = true) : j < n := bit_lt (getD_lt h i) hs
/-- the closure contains the relation, is transitive, and lies in each closed set -/
theorem clo_sub (o : List Nat) (k i j : Nat) (h : se o i j = true) : se (clo o k) i j = true := by
  have := (lel_clo o 0 k).2 i j h
  rwa [Nat.zero_add] at this
theorem clo_trans (o : List Nat) (h : ∀ x ∈ o, x < 2 ^ o.length) {i m j : Nat} (hi : i < o.length) (h1 : se (clo o o.length) i m = true) (h2 : se (clo o o.length) m j = true) : se (clo o o.length) i j = true :=
  clo_step_tra o h o.length (Nat.le_refl _) i j m hi (se_lt (clo_lt' o h _) h1) h1 h2
theorem clo_min (o : List Nat) (S : Nat → Prop) (hS : ∀ i j, S i → se o i j = true → S j) (k : Nat) (hk : k ≤ o.length) : ∀ i j, i < o.length → S i → se (clo o k) i j = true → S j := by
  induction k with
  | zero => intro i j _ hi h; exact hS i j hi h
  | succ k ih =>
    intro i j hil hi h
    rw [clo_se o k _ _ hil, Bool.or_eq_true, Bool.and_eq_true] at h
    rcases h with h | ⟨h1, h2⟩
    · exact ih (by omega) i j hil hi h
    · exact ih (by omega) k j (by omega) (ih (by omega) i k hil hi h1) h2
/-- the worlds that are reached from a world -/
def rch (ns : List Nat) (x : Nat) : Nat := (clo ns ns.length).getD x 0 ||| 2 ^ x
theorem rch_bit (ns : List Nat) (x j : Nat) : (rch ns x).testBit j = (se (clo ns ns.length) x j || decide (x = j)) := by
  unfold rch se
  rw [Nat.testBit_or, Nat.testBit_two_pow]
theorem rch_lt (ns : List Nat) (h : ∀ x ∈ ns, x < 2 ^ ns.length) {x : Nat} (hx : x < ns.length) : rch ns x < 2 ^ ns.length :=
  Nat.or_lt_two_pow (getD_lt (clo_lt' ns h _) x) (Nat.pow_lt_pow_right (by decide) hx)
theorem img_bit (ns : List Nat) (m b : Nat) : (img ns m).testBit b = true ↔ ∃ i, i < ns.length ∧ m.testBit i = true ∧ se ns i b = true := imgTo_bit _ _ _ _
/-- a mask that lies between the world and what is reached from it, one round more -/
theorem rch_round (ns : List Nat) (h : ∀ x ∈ ns, x < 2 ^ ns.length) {x : Nat} (hx : x < ns.length) (m : Nat) (hm : ∀ j, m.testBit j = true → (rch ns x).testBit j = true) : ∀ j, (m ||| img ns m).testBit j = true → (rch ns x).testBit j = true := by
  intro j hj
  rw [Nat.testBit_or, Bool.or_eq_true] at hj
  rcases hj with hj | hj
  · exact hm j hj
  · obtain ⟨i, hi, h1, h2⟩ := (img_bit ns m j).1 hj
    have h3 := hm i h1
    rw [rch_bit, Bool.or_eq_true, decide_eq_true_eq] at h3 ⊢
    have h4 := clo_sub ns ns.length i j h2
    rcases h3 with h3 | h3
    · exact .inl (clo_trans ns h hx h3 h4)
    · subst h3; exact .inl h4
/-- a closed mask with the world is all that is reached -/
theorem rch_done (ns : List Nat) (h : ∀ x ∈ ns, x < 2 ^ ns.length) {x : Nat} (hx : x < ns.length) (m : Nat) (hm : ∀ j, m.testBit j = true → (rch ns x).testBit j = true) (hxm : m.testBit x = true) (hc : andnot (img ns m) m = 0) : m = rch ns x := by
  rw [andnot_zero] at hc
  apply Nat.eq_of_testBit_eq
  intro j
  rw [Bool.eq_iff_iff]
  refine ⟨hm j, fun hj => ?_⟩
  rw [rch_bit, Bool.or_eq_true, decide_eq_true_eq] at hj
  rcases hj with hj | hj
  · have := clo_min ns (fun i => i < ns.length ∧ m.testBit i = true) (fun i j hi hs => ⟨se_lt h hs, hc j ((img_bit ns m j).2 ⟨i, hi.1, hi.2, hs⟩)⟩) ns.length (Nat.le_refl _) x j hx ⟨hx, hxm⟩ hj
    exact this.2
  · subst hj; exact hxm
/-- a round that goes on makes the mask greater -/
theorem or_grow {m i n : Nat} (h : ¬ andnot i m = 0) (hm : m < 2 ^ n) (hi : i < 2 ^ n) : m < m ||| i ∧ m ||| i < 2 ^ n := by
  refine ⟨?_, Nat.or_lt_two_pow hm hi⟩
  have h1 : m ≤ m ||| i := Nat.left_le_or
  rcases Nat.lt_or_ge m (m ||| i) with h2 | h2
  · exact h2
  · have e : m ||| i = m := by omega
    exfalso
    apply h
    rw [andnot_zero]
    intro j hj
    rw [← e, Nat.testBit_or, hj, Bool.or_true]
/-- the places of a mask's members among those of another one -/
def sqTo (m : Nat) (xs : List Int) : Nat → Nat
  | 0 => 0
  | k + 1 => sqTo m xs k ||| if m.testBit (xs.getD k 0).toNat then 2 ^ k else 0
def sqz (m on : Nat) : Nat := sqTo m (mems on) (mems on).length
theorem sqTo_msk (m : Nat) (xs : List Int) (k : Nat) : sqTo m xs k = msk (fun i => m.testBit (xs.getD i 0).toNat) k := by
  induction k with
  | zero => rfl
  | succ k ih => rw [sqTo, ih]; rfl
theorem sqz_lt (m on : Nat) : sqz m on < 2 ^ (mems on).length := by unfold sqz; rw [sqTo_msk]; exact msk_lt _ _
/-- the part of a relation, and of values, on some elements -/
def ptr (ns : List Nat) (on : Nat) : List Nat := (mems on).map fun x => sqz (ns.getD x.toNat 0) on
def ptv (us : List Nat) (on : Nat) : List Nat := us.map fun u => sqz u on
theorem ptr_length (ns : List Nat) (on : Nat) : (ptr ns on).length = (mems on).length := by simp [ptr]
theorem ptv_length (us : List Nat) (on : Nat) : (ptv us on).length = us.length := by simp [ptv]
theorem ptr_lt (ns : List Nat) (on : Nat) : ∀ x ∈ ptr ns on, x < 2 ^ (ptr ns on).length := by
  intro x hx
  rw [ptr_length]
  unfold ptr at hx
  rw [List.mem_map] at hx
  obtain ⟨y, -, rfl⟩ := hx
  exact sqz_lt _ _
theorem ptv_lt (ns us : List Nat) (on : Nat) : ∀ x ∈ ptv us on, x < 2 ^ (ptr ns on).length := by
  intro x hx
  rw [ptr_length]
  unfold ptv at hx
  rw [List.mem_map] at hx
  obtain ⟨y, -, rfl⟩ := hx
  exact sqz_lt _ _
theorem memsTo_le {m n : Nat} (hm : m < 2 ^ n) (k : Nat) : (memsTo m k).length ≤ k ∧ (memsTo m k).length ≤ n := by
  induction k with
  | zero => simp [memsTo]
  | succ k ih =>
    have e : memsTo m (k + 1) = memsTo m k ++ (if m.testBit k then [(k : Int)] else []) := by
      unfold memsTo
      rw [List.range_succ, List.filter_append, List.map_append]
      by_cases h : m.testBit k = true
      · simp [h]
      · simp [h]
    rw [e, List.length_append]
    by_cases h : m.testBit k = true
    · have := bit_lt hm h
      rw [if_pos h]; simp only [List.length_singleton]; omega
    · rw [if_neg h]; simp only [List.length_nil]; omega
theorem mems_le {m n : Nat} (hm : m < 2 ^ n) : (mems m).length ≤ n := (memsTo_le hm 64).2
theorem ptr_rel (ns : List Nat) (on : Nat) (h : RelN ns) (ho : on < 2 ^ ns.length) : RelN (ptr ns on) :=
  ⟨by rw [ptr_length]; exact Nat.le_trans (mems_le ho) h.1, ptr_lt ns on⟩
theorem pt_md (ns us : List Nat) (on : Nat) (h : MdN ns us) (ho : on < 2 ^ ns.length) : MdN (ptr ns on) (ptv us on) :=
  ⟨ptr_rel ns on h.r ho, by rw [ptv_length, h.l], ptv_lt ns us on⟩
/-- where a number first stands -/
theorem mems_find {m x : Nat} (hx : x < 64) (h : m.testBit x = true) : ∃ k, k < (mems m).length ∧ (mems m)[k]? = some (x : Int) ∧ ∀ j, j < k → ¬ (mems m)[j]? = some (x : Int) := by
  have hmem : (x : Int) ∈ mems m := mems_iff.2 ⟨x, hx, h, rfl⟩
  cases hf : (mems m).findIdx? (fun y => decide (y = (x : Int))) with
  | none =>
    rw [List.findIdx?_eq_none_iff] at hf
    exact absurd (hf _ hmem) (by simp)
  | some k =>
    rw [List.findIdx?_eq_some_iff_getElem] at hf
    obtain ⟨hk, h1, h2⟩ := hf
    refine ⟨k, hk, by rw [List.getElem?_eq_getElem hk]; simpa using h1, fun j hj he => ?_⟩
    have := h2 j hj
    rw [List.getElem?_eq_getElem (by omega)] at he
    simp at this
    exact this (Option.some.inj he)
end Go.Proofs.YtkdldfomdbgcaaaGreat

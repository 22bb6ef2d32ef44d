/- Plain law: bisimilarity between two models in so many rounds is an equivalence of worlds, which is steady after 16 rounds; it keeps truth. No program in sight. -/
import Derived.Test.YtkllbehdmlbhaaaSA
namespace Go.Proofs.Ytkllbehdmlbhaaa
open Go.RowKit
set_option linter.unusedVariables false
set_option linter.unusedSimpArgs false
/-- the least elements of the classes -/
def lea (E : Nat → Nat → Bool) (x : Nat) : Bool := !(List.range x).any fun y => E y x
theorem lea_iff (E : Nat → Nat → Bool) (x : Nat) : lea E x = true ↔ ∀ y, y < x → E y x = false := by
  unfold lea
  rw [Bool.not_eq_true', List.any_eq_false]
  constructor
  · intro h y hy
    have := h y (List.mem_range.2 hy)
    simpa using this
  · intro h y hy
    rw [h y (List.mem_range.1 hy)]
    decide
theorem lea_ex (E : Nat → Nat → Bool) (N : Nat) (hr : ∀ x, x < N → E x x = true) (ht : ∀ x y z, x < N → y < N → z < N → E x y = true → E y z = true → E x z = true) (x : Nat) : x < N → ∃ r, r ≤ x ∧ lea E r = true ∧ E r x = true := by
  induction x using Nat.strongRecOn with
  | ind x ih =>
    intro hx
    by_cases h : lea E x = true
    · exact ⟨x, Nat.le_refl _, h, hr x hx⟩
    · have h' : ∃ y, y < x ∧ E y x = true := by
        refine Classical.byContradiction fun hn => h ((lea_iff E x).2 fun y hy => ?_)
        cases he : E y x
        · rfl
        · exact absurd ⟨y, hy, he⟩ hn
      obtain ⟨y, hy, he⟩ := h'
      obtain ⟨r, h1, h2, h3⟩ := ih y hy (by omega)
      exact ⟨r, by omega, h2, ht r y x (by omega) (by omega) hx h3 he⟩
def lct (E : Nat → Nat → Bool) (N : Nat) : Nat := (List.range N).countP (lea E)
theorem lct_le (E : Nat → Nat → Bool) (N : Nat) : lct E N ≤ N := by
  have := List.countP_le_length (p := lea E) (l := List.range N)
  rw [List.length_range] at this
  exact this
theorem countP_lt {α : Type} {p q : α → Bool} : ∀ {l : List α}, (∀ x ∈ l, p x = true → q x = true) → (∃ x ∈ l, p x = false ∧ q x = true) → l.countP p < l.countP q := by
  intro l
  induction l with
  | nil => rintro _ ⟨x, hx, _⟩; cases hx
  | cons a l ih =>
    intro h ⟨x, hx, h1, h2⟩
    rw [List.countP_cons, List.countP_cons]
    have ha := h a List.mem_cons_self
    have hm : l.countP p ≤ l.countP q := List.countP_mono_left fun x hx => h x (List.mem_cons_of_mem _ hx)
    rcases List.mem_cons.1 hx with rfl | hx
    · rw [h1, h2]
      simp only [Bool.false_eq_true, if_false, if_true]
      omega
    · have := ih (fun x hx => h x (List.mem_cons_of_mem _ hx)) ⟨x, hx, h1, h2⟩
      cases hp : p a
      · simp only [Bool.false_eq_true, if_false]; omega
      · rw [ha hp]; simp only [if_true]; omega
/-- a decreasing sequence of equivalences, each made of the one before, is steady behind as many steps as there are elements -/
theorem steady (N : Nat) (E : Nat → Nat → Nat → Bool) (hr : ∀ k x, x < N → E k x x = true) (hs : ∀ k x y, x < N → y < N → E k x y = true → E k y x = true)
    (ht : ∀ k x y z, x < N → y < N → z < N → E k x y = true → E k y z = true → E k x z = true) (hd : ∀ k x y, x < N → y < N → E (k + 1) x y = true → E k x y = true)
    (hF : ∀ k, (∀ x y, x < N → y < N → E k x y = E (k + 1) x y) → ∀ x y, x < N → y < N → E (k + 1) x y = E (k + 2) x y) : ∀ k, N ≤ k → ∀ x y, x < N → y < N → E k x y = E (k + 1) x y := by
  have grow : ∀ k, ¬ (∀ x y, x < N → y < N → E k x y = E (k + 1) x y) → lct (E k) N < lct (E (k + 1)) N := by
    intro k hk
    have hsub : ∀ x ∈ List.range N, lea (E k) x = true → lea (E (k + 1)) x = true := by
      intro x hx h
      rw [List.mem_range] at hx
      rw [lea_iff] at h ⊢
      intro y hy
      cases he : E (k + 1) y x
      · rfl
      · have := h y hy
        rw [hd k y x (by omega) hx he] at this; cases this
    refine countP_lt hsub (Classical.byContradiction fun hn => hk fun x y hx hy => ?_)
    have hsame : ∀ r, r < N → lea (E (k + 1)) r = true → lea (E k) r = true := by
      intro r hrN h
      cases he : lea (E k) r
      · exact absurd ⟨r, List.mem_range.2 hrN, he, h⟩ hn
      · rfl
    cases he : E k x y
    · cases he' : E (k + 1) x y
      · rfl
      · rw [hd k x y hx hy he'] at he; cases he
    · obtain ⟨r, r1, r2, r3⟩ := lea_ex (E (k + 1)) N (hr _) (ht _) x hx
      obtain ⟨q, q1, q2, q3⟩ := lea_ex (E (k + 1)) N (hr _) (ht _) y hy
      have r4 := hsame r (by omega) r2
      have q4 := hsame q (by omega) q2
      have e1 := hd k r x (by omega) hx r3
      have e2 := hd k q y (by omega) hy q3
      have e3 := ht k r x y (by omega) hx hy e1 he
      have e4 := ht k r y q (by omega) hy (by omega) e3 (hs k q y (by omega) hy e2)
      rcases Nat.lt_trichotomy r q with h | h | h
      · rw [(lea_iff _ _).1 q4 r h] at e4; cases e4
      · subst h
        exact (ht (k + 1) x r y hx (by omega) hy (hs (k + 1) r x (by omega) hx r3) q3).symm
      · have e5 := hs k r q (by omega) (by omega) e4
        rw [(lea_iff _ _).1 r4 q h] at e5; cases e5
  have go : ∀ k, (∃ j, j ≤ k ∧ ∀ x y, x < N → y < N → E j x y = E (j + 1) x y) ∨ k < lct (E (k + 1)) N := by
    intro k
    induction k with
    | zero =>
      by_cases h : ∀ x y, x < N → y < N → E 0 x y = E (0 + 1) x y
      · exact .inl ⟨0, Nat.le_refl _, h⟩
      · have := grow 0 h; exact .inr (by omega)
    | succ k ih =>
      rcases ih with ⟨j, h1, h2⟩ | ih
      · exact .inl ⟨j, by omega, h2⟩
      · by_cases h : ∀ x y, x < N → y < N → E (k + 1) x y = E (k + 1 + 1) x y
        · exact .inl ⟨k + 1, Nat.le_refl _, h⟩
        · have := grow (k + 1) h; exact .inr (by omega)
  have up : ∀ j, (∀ x y, x < N → y < N → E j x y = E (j + 1) x y) → ∀ d x y, x < N → y < N → E (j + d) x y = E (j + d + 1) x y := by
    intro j hj d
    induction d with
    | zero => exact hj
    | succ d ih => exact hF (j + d) ih
  intro k hk
  rcases go N with ⟨j, h1, h2⟩ | h
  · rcases Nat.lt_or_ge k j with h3 | h3
    · obtain rfl : j = N := by omega
      omega
    · have := up j h2 (k - j)
      rw [show j + (k - j) = k by omega] at this
      exact this
  · have := lct_le (E (N + 1)) N
    omega
/-- a model: its arrows and its values -/
abbrev Mo := List Nat × List Nat
def bz (k : Nat) (A B : Mo) (x y : Nat) : Bool := ((bnd A.1 A.2 B.1 B.2 k).getD x 0).testBit y
theorem bz_zero (A B : Mo) {x y : Nat} (hx : x < A.1.length) (hy : y < B.1.length) : bz 0 A B x y = atm A.2 B.2 x y := by
  unfold bz bnd
  rw [lnk_getD _ hx, msk_testBit, decide_eq_true hy, Bool.true_and]
theorem bz_succ {A B : Mo} (hA : RelN A.1) (hB : RelN B.1) (k : Nat) {x y : Nat} (hx : x < A.1.length) (hy : y < B.1.length) :
    bz (k + 1) A B x y = true ↔ atm A.2 B.2 x y = true ∧ (∀ s, s < A.1.length → (A.1.getD x 0).testBit s = true → ∃ t, t < B.1.length ∧ (B.1.getD y 0).testBit t = true ∧ bz k A B s t = true) ∧
      (∀ t, t < B.1.length → (B.1.getD y 0).testBit t = true → ∃ s, s < A.1.length ∧ (A.1.getD x 0).testBit s = true ∧ bz k A B s t = true) := by
  unfold bz
  rw [bnd, lnk_getD _ hx, msk_testBit, decide_eq_true hy, Bool.true_and]
  unfold hol
  rw [Bool.and_eq_true, Bool.and_eq_true, frt_iff, bck_iff, bnd_length]
  constructor
  · rintro ⟨h1, h2, h3⟩
    refine ⟨h1, fun s hs ha => ?_, fun t ht hb => ?_⟩
    · obtain ⟨t, p, q⟩ := h2 s hs ha
      exact ⟨t, bit_lt (getD_lt hB.2 y) q, q, p⟩
    · obtain ⟨s, p, q, r⟩ := h3 t hb
      exact ⟨s, p, q, r⟩
  · rintro ⟨h1, h2, h3⟩
    refine ⟨h1, fun s hs ha => ?_, fun t hb => ?_⟩
    · obtain ⟨t, p, q, r⟩ := h2 s hs ha
      exact ⟨t, r, q⟩
    · exact h3 t (bit_lt (getD_lt hB.2 y) hb) hb
theorem atm_symm2 {us ts : List Nat} {x y : Nat} (h : atm us ts x y = true) : atm ts us y x = true := by
  rw [atm_tru, decide_eq_true_eq] at h ⊢; exact h.symm
theorem atm_trans2 {us ts vs : List Nat} {x y z : Nat} (h : atm us ts x y = true) (h' : atm ts vs y z = true) : atm us vs x z = true := by
  rw [atm_tru, decide_eq_true_eq] at h h' ⊢; exact h.trans h'
theorem bz_refl {A : Mo} (hA : RelN A.1) (k : Nat) : ∀ {x : Nat}, x < A.1.length → bz k A A x x = true := by
  induction k with
  | zero => intro x hx; rw [bz_zero A A hx hx]; exact atm_refl _ _
  | succ k ih => intro x hx; rw [bz_succ hA hA k hx hx]; exact ⟨atm_refl _ _, fun s hs h => ⟨s, hs, h, ih hs⟩, fun s hs h => ⟨s, hs, h, ih hs⟩⟩
theorem bz_symm {A B : Mo} (hA : RelN A.1) (hB : RelN B.1) (k : Nat) : ∀ {x y : Nat}, x < A.1.length → y < B.1.length → bz k A B x y = true → bz k B A y x = true := by
  induction k with
  | zero => intro x y hx hy h; rw [bz_zero A B hx hy] at h; rw [bz_zero B A hy hx]; exact atm_symm2 h
  | succ k ih =>
    intro x y hx hy h
    rw [bz_succ hA hB k hx hy] at h
    rw [bz_succ hB hA k hy hx]
    obtain ⟨a, f, b⟩ := h
    refine ⟨atm_symm2 a, fun s hs h => ?_, fun s hs h => ?_⟩
    · obtain ⟨t, p, q, r⟩ := b s hs h
      exact ⟨t, p, q, ih p hs r⟩
    · obtain ⟨t, p, q, r⟩ := f s hs h
      exact ⟨t, p, q, ih hs p r⟩
theorem bz_trans {A B C : Mo} (hA : RelN A.1) (hB : RelN B.1) (hC : RelN C.1) (k : Nat) : ∀ {x y z : Nat}, x < A.1.length → y < B.1.length → z < C.1.length → bz k A B x y = true → bz k B C y z = true → bz k A C x z = true := by
  induction k with
  | zero => intro x y z hx hy hz h h'; rw [bz_zero A B hx hy] at h; rw [bz_zero B C hy hz] at h'; rw [bz_zero A C hx hz]; exact atm_trans2 h h'
  | succ k ih =>
    intro x y z hx hy hz h h'
    rw [bz_succ hA hB k hx hy] at h
    rw [bz_succ hB hC k hy hz] at h'
    rw [bz_succ hA hC k hx hz]
    obtain ⟨a, f, b⟩ := h
    obtain ⟨a', f', b'⟩ := h'
    refine ⟨atm_trans2 a a', fun s hs h => ?_, fun s hs h => ?_⟩
    · obtain ⟨t, p, q, r⟩ := f s hs h
      obtain ⟨u, p', q', r'⟩ := f' t p q
      exact ⟨u, p', q', ih hs p p' r r'⟩
    · obtain ⟨t, p, q, r⟩ := b' s hs h
      obtain ⟨u, p', q', r'⟩ := b t p q
      exact ⟨u, p', q', ih p' p hs r' r⟩
theorem bz_down {A B : Mo} (hA : RelN A.1) (hB : RelN B.1) (k : Nat) : ∀ {x y : Nat}, x < A.1.length → y < B.1.length → bz (k + 1) A B x y = true → bz k A B x y = true := by
  induction k with
  | zero => intro x y hx hy h; rw [bz_succ hA hB 0 hx hy] at h; rw [bz_zero A B hx hy]; exact h.1
  | succ k ih =>
    intro x y hx hy h
    rw [bz_succ hA hB _ hx hy] at h
    rw [bz_succ hA hB _ hx hy]
    obtain ⟨a, f, b⟩ := h
    refine ⟨a, fun s hs h => ?_, fun s hs h => ?_⟩
    · obtain ⟨t, p, q, r⟩ := f s hs h
      exact ⟨t, p, q, ih hs p r⟩
    · obtain ⟨t, p, q, r⟩ := b s hs h
      exact ⟨t, p, q, ih p hs r⟩
theorem bz_le {A B : Mo} (hA : RelN A.1) (hB : RelN B.1) {k j : Nat} (h : k ≤ j) {x y : Nat} (hx : x < A.1.length) (hy : y < B.1.length) (hb : bz j A B x y = true) : bz k A B x y = true := by
  induction j with
  | zero => obtain rfl : k = 0 := by omega
            exact hb
  | succ j ih =>
    rcases Nat.lt_or_ge k (j + 1) with h1 | h1
    · exact ih (by omega) (bz_down hA hB j hx hy hb)
    · obtain rfl : k = j + 1 := by omega
      exact hb
theorem bz_same {A B : Mo} (hA : RelN A.1) (hB : RelN B.1) (k : Nat) (h : ∀ s t, s < A.1.length → t < B.1.length → bz k A B s t = bz (k + 1) A B s t) {x y : Nat} (hx : x < A.1.length) (hy : y < B.1.length) :
    bz (k + 1) A B x y = bz (k + 2) A B x y := by
  rw [Bool.eq_iff_iff, bz_succ hA hB _ hx hy, bz_succ hA hB _ hx hy]
  constructor
  · rintro ⟨a, f, b⟩
    refine ⟨a, fun s hs h' => ?_, fun s hs h' => ?_⟩
    · obtain ⟨t, p, q, r⟩ := f s hs h'
      exact ⟨t, p, q, by rw [← h s t hs p]; exact r⟩
    · obtain ⟨t, p, q, r⟩ := b s hs h'
      exact ⟨t, p, q, by rw [← h t s p hs]; exact r⟩
  · rintro ⟨a, f, b⟩
    refine ⟨a, fun s hs h' => ?_, fun s hs h' => ?_⟩
    · obtain ⟨t, p, q, r⟩ := f s hs h'
      exact ⟨t, p, q, by rw [h s t hs p]; exact r⟩
    · obtain ⟨t, p, q, r⟩ := b s hs h'
      exact ⟨t, p, q, by rw [h t s p hs]; exact r⟩
/-- the worlds of two models in one row -/
def sdM (A B : Mo) (i : Nat) : Mo := if i < A.1.length then A else B
def sdX (A : Mo) (i : Nat) : Nat := if i < A.1.length then i else i - A.1.length
theorem sd_ok {A B : Mo} (hA : RelN A.1) (hB : RelN B.1) {i : Nat} (h : i < A.1.length + B.1.length) : RelN (sdM A B i).1 ∧ sdX A i < (sdM A B i).1.length := by
  unfold sdM sdX
  by_cases h1 : i < A.1.length
  · rw [if_pos h1, if_pos h1]; exact ⟨hA, h1⟩
  · rw [if_neg h1, if_neg h1]; exact ⟨hB, by omega⟩
/-- behind 16 rounds nothing changes -/
theorem bz_steady {A B : Mo} (hA : RelN A.1) (hB : RelN B.1) (k : Nat) (hk : 16 ≤ k) {x y : Nat} (hx : x < A.1.length) (hy : y < B.1.length) : bz k A B x y = bz (k + 1) A B x y := by
  have h8 := hA.1
  have h8' := hB.1
  have H := steady (A.1.length + B.1.length) (fun k i j => bz k (sdM A B i) (sdM A B j) (sdX A i) (sdX A j))
    (fun k x hx => bz_refl (sd_ok hA hB hx).1 k (sd_ok hA hB hx).2)
    (fun k x y hx hy h => bz_symm (sd_ok hA hB hx).1 (sd_ok hA hB hy).1 k (sd_ok hA hB hx).2 (sd_ok hA hB hy).2 h)
    (fun k x y z hx hy hz h h' => bz_trans (sd_ok hA hB hx).1 (sd_ok hA hB hy).1 (sd_ok hA hB hz).1 k (sd_ok hA hB hx).2 (sd_ok hA hB hy).2 (sd_ok hA hB hz).2 h h')
    (fun k x y hx hy h => bz_down (sd_ok hA hB hx).1 (sd_ok hA hB hy).1 k (sd_ok hA hB hx).2 (sd_ok hA hB hy).2 h)
    (fun k h x y hx hy => bz_same (sd_ok hA hB hx).1 (sd_ok hA hB hy).1 k (fun s t hs ht => by
      -- every world of the side of x and y is one of the row
      have row : ∀ {i s : Nat}, i < A.1.length + B.1.length → s < (sdM A B i).1.length → ∃ i', i' < A.1.length + B.1.length ∧ sdM A B i' = sdM A B i ∧ sdX A i' = s := by
        intro i s hi hs
        by_cases h1 : i < A.1.length
        · have e : sdM A B i = A := if_pos h1
          rw [e] at hs
          exact ⟨s, by omega, by rw [e]; exact if_pos hs, if_pos hs⟩
        · have e : sdM A B i = B := if_neg h1
          rw [e] at hs
          exact ⟨A.1.length + s, by omega, by rw [e]; exact if_neg (by omega), (if_neg (by omega)).trans (by omega)⟩
      obtain ⟨i, i1, i2, i3⟩ := row hx hs
      obtain ⟨j, j1, j2, j3⟩ := row hy ht
      have := h i j i1 j1
      rw [i2, i3, j2, j3] at this
      exact this) (sd_ok hA hB hx).2 (sd_ok hA hB hy).2)
  have h1 := H k (by omega) x (A.1.length + y) (by omega) (by omega)
  have e1 : sdM A B x = A := if_pos hx
  have e2 : sdX A x = x := if_pos hx
  have e3 : sdM A B (A.1.length + y) = B := if_neg (by omega)
  have e4 : sdX A (A.1.length + y) = y := (if_neg (by omega)).trans (by omega)
  simp only [e1, e2, e3, e4] at h1
  exact h1
/-- bisimilar worlds agree in all formulas -/
theorem bx_bit (ns : List Nat) (m w : Nat) (hw : w < ns.length) (h8 : RelN ns) : (bx ns m).testBit w = true ↔ ∀ v, v < ns.length → (ns.getD w 0).testBit v = true → m.testBit v = true := by
  unfold bx
  rw [msk_testBit, decide_eq_true hw, Bool.true_and, decide_eq_true_eq, andnot_zero]
  exact ⟨fun h v _ hv => h v hv, fun h v hv => h v (bit_lt (getD_lt h8.2 w) hv) hv⟩
theorem bz_tv {A B : Mo} (hA : RelN A.1) (hB : RelN B.1) (hlA : A.2.length = 6) (hlB : B.2.length = 6) (f : Fm) : ∀ {x y : Nat}, x < A.1.length → y < B.1.length → bz 16 A B x y = true → (tv A.1 A.2 f).testBit x = (tv B.1 B.2 f).testBit y := by
  have full : ∀ {n i : Nat}, i < n → (2 ^ n - 1 : Nat).testBit i = true := fun h => by rw [Nat.testBit_two_pow_sub_one, decide_eq_true h]
  have boxes : ∀ (a b : Nat), (∀ {x y : Nat}, x < A.1.length → y < B.1.length → bz 16 A B x y = true → a.testBit x = b.testBit y) → ∀ {x y : Nat}, x < A.1.length → y < B.1.length → bz 16 A B x y = true → (bx A.1 a).testBit x = (bx B.1 b).testBit y := by
    intro a b hab x y hx hy h
    rw [bz_steady hA hB 16 (Nat.le_refl _) hx hy, bz_succ hA hB 16 hx hy] at h
    obtain ⟨-, f, g⟩ := h
    rw [Bool.eq_iff_iff, bx_bit _ _ _ hx hA, bx_bit _ _ _ hy hB]
    constructor
    · intro h t ht hr
      obtain ⟨s, p, q, r⟩ := g t ht hr
      rw [← hab p ht r]
      exact h s p q
    · intro h s hs hr
      obtain ⟨t, p, q, r⟩ := f s hs hr
      rw [hab hs p r]
      exact h t p q
  induction f with
  | var s =>
    intro x y hx hy h
    have h0 := bz_le hA hB (Nat.zero_le 16) hx hy h
    rw [bz_zero A B hx hy] at h0
    unfold atm at h0
    rw [List.all_eq_true] at h0
    unfold tv
    by_cases hs : s < 6
    · have := h0 s (List.mem_range.2 hs)
      simpa using this
    · rw [List.getD_eq_getElem?_getD, List.getD_eq_getElem?_getD, List.getElem?_eq_none (by omega), List.getElem?_eq_none (by omega)]
      simp
  | fls => intro x y hx hy h; unfold tv; simp
  | bin k a b iha ihb =>
    intro x y hx hy h
    cases k
    · rw [tv, tv, Nat.testBit_and, Nat.testBit_and, iha hx hy h, ihb hx hy h]
    · rw [tv, tv, Nat.testBit_or, Nat.testBit_or, iha hx hy h, ihb hx hy h]
    · rw [tv, tv, Nat.testBit_or, Nat.testBit_or, andnot_testBit, andnot_testBit, iha hx hy h, ihb hx hy h, full hx, full hy]
  | un k a ih =>
    intro x y hx hy h
    cases k
    · rw [tv, tv]; exact boxes _ _ ih hx hy h
    · rw [tv, tv, andnot_testBit, andnot_testBit, full hx, full hy]
      rw [boxes (andnot (2 ^ A.1.length - 1) (tv A.1 A.2 a)) (andnot (2 ^ B.1.length - 1) (tv B.1 B.2 a)) (fun {x y} hx hy h => by rw [andnot_testBit, andnot_testBit, full hx, full hy, ih hx hy h]) hx hy h]
end Go.Proofs.Ytkllbehdmlbhaaa

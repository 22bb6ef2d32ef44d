/- Joined of several texts: M12, M12F, M12E. -/
import Derived.Test.YtcikenffeekkeaaGreatDoorY10
import Derived.Test.YtcikenffeekkeaaGreatDoorY16
import Derived.Test.YtcikenffeekkeaaGreatDoorY18
import Derived.Test.YtcikenffeekkeaaGreatDoorY23
namespace Go.Proofs.YtcikenffeekkeaaGreatDoor
open Go.RowKit
set_option linter.unusedVariables false
set_option linter.unusedSimpArgs false
/- Plain law of types for GL: elementary parts, types as masks, what stays alive; a sequent has no living refuting type exactly if it is true in all models that are transitive and well-founded. No program in sight. -/
def UK.bx : UK → Bool | .box => true | .dia => false
/-- an elementary formula: a letter or one with a modality first -/
def isel : Fm → Bool | .var _ => true | .un _ _ => true | _ => false
/-- the place of a formula among some -/
def ixT (P : List Fm) (g : Fm) : Nat := P.findIdx fun e => decide (enc e = enc g)
/-- the value of a formula in a type -/
def vt (P : List Fm) (t : Nat) : Fm → Bool
  | .var s => t.testBit (ixT P (.var s))
  | .fls => false
  | .bin .and a b => vt P t a && vt P t b
  | .bin .or a b => vt P t a || vt P t b
  | .bin .imp a b => !vt P t a || vt P t b
  | .un k a => t.testBit (ixT P (.un k a))
/-- a part demands something of all that is seen -/
def dmd (P : List Fm) (t i : Nat) : Bool := match P.getD i .fls with | .un k _ => t.testBit i == k.bx | _ => false
/-- the part below the modality is as a demand wants it -/
def mts (P : List Fm) (t i : Nat) : Bool := match P.getD i .fls with | .un k a => vt P t a == k.bx | _ => false
def ism (P : List Fm) (i : Nat) : Bool := match P.getD i .fls with | .un _ _ => true | _ => false
def psT (P : List Fm) (t u : Nat) : Bool := (List.range P.length).all fun i => !(ism P i) || !dmd P t i || (mts P u i && dmd P u i)
def stT (P : List Fm) (t u : Nat) : Bool := (List.range P.length).any fun i => ism P i && dmd P u i && !dmd P t i
def seT (P : List Fm) (t u : Nat) : Bool := psT P t u && stT P t u
def wiT (P : List Fm) (i t u : Nat) : Bool := seT P t u && !mts P u i && dmd P u i
/-- types that keep each other alive -/
def Post (P : List Fm) (S : Nat → Prop) : Prop := ∀ t, S t → t < 2 ^ P.length ∧ ∀ i, i < P.length → ism P i = true → dmd P t i = false → ∃ u, S u ∧ wiT P i t u = true
def Alv (P : List Fm) (t : Nat) : Prop := ∃ S, Post P S ∧ S t
theorem Alv.post (P : List Fm) : Post P (Alv P) := by
  rintro t ⟨S, hS, ht⟩
  obtain ⟨h1, h2⟩ := hS t ht
  refine ⟨h1, fun i hi hm hd => ?_⟩
  obtain ⟨u, hu, hw⟩ := h2 i hi hm hd
  exact ⟨u, ⟨S, hS, hu⟩, hw⟩
/-- no living type refutes the sequent -/
def ThmT (P L R : List Fm) : Prop := ∀ t, Alv P t → (∀ f ∈ L, vt P t f = true) → ∃ f ∈ R, vt P t f = true
theorem enc_cutT : ∀ (a b : Fm) (r r' : List Nd), enc a ++ r = enc b ++ r' → a = b ∧ r = r' := by
  intro a
  induction a with
  | var s => intro b r r' h; cases b with
    | var t => simp [enc] at h; exact ⟨by have h1 := h.1; congr 1; omega, h.2⟩
    | fls => simp [enc] at h
    | bin k _ _ => cases k <;> simp [enc, BK.i] at h
    | un k _ => cases k <;> simp [enc, UK.i] at h
  | fls => intro b r r' h; cases b with
    | var t => simp [enc] at h
    | fls => simp [enc] at h; exact ⟨rfl, h⟩
    | bin k _ _ => cases k <;> simp [enc, BK.i] at h
    | un k _ => cases k <;> simp [enc, UK.i] at h
  | bin k a b iha ihb => intro c r r' h; cases c with
    | var t => cases k <;> simp [enc, BK.i] at h
    | fls => cases k <;> simp [enc, BK.i] at h
    | bin k' a' b' =>
      have hk : k = k' := by cases k <;> cases k' <;> simp [enc, BK.i] at h <;> rfl
      subst hk
      have h2 : enc a ++ (enc b ++ r) = enc a' ++ (enc b' ++ r') := by simpa [enc] using h
      obtain ⟨e1, h3⟩ := iha a' _ _ h2
      obtain ⟨e2, h4⟩ := ihb b' _ _ h3
      exact ⟨by rw [e1, e2], h4⟩
    | un k' _ => cases k <;> cases k' <;> simp [enc, BK.i, UK.i] at h
  | un k a ih => intro c r r' h; cases c with
    | var t => cases k <;> simp [enc, UK.i] at h
    | fls => cases k <;> simp [enc, UK.i] at h
    | bin k' _ _ => cases k <;> cases k' <;> simp [enc, BK.i, UK.i] at h
    | un k' a' =>
      have hk : k = k' := by cases k <;> cases k' <;> simp [enc, UK.i] at h <;> rfl
      subst hk
      have h2 : enc a ++ r = enc a' ++ r' := by simpa [enc] using h
      obtain ⟨e1, h3⟩ := ih a' _ _ h2
      exact ⟨by rw [e1], h3⟩
theorem enc_eqT {a b : Fm} (h : enc a = enc b) : a = b := (enc_cutT a b [] [] (by rw [h])).1
theorem ixT_mem {P : List Fm} {g : Fm} (h : g ∈ P) : ixT P g < P.length ∧ P.getD (ixT P g) .fls = g := by
  have h1 : ixT P g < P.length := List.findIdx_lt_length_of_exists ⟨g, h, by simp⟩
  refine ⟨h1, ?_⟩
  have h2 := List.findIdx_getElem (xs := P) (p := fun e => decide (enc e = enc g)) (w := h1)
  rw [List.getD_eq_getElem?_getD, List.getElem?_eq_getElem h1, Option.getD_some]
  exact enc_eqT (of_decide_eq_true h2)
/-- the elementary parts of a formula are among some -/
def inP (P : List Fm) : Fm → Prop
  | .var s => .var s ∈ P
  | .fls => True
  | .bin _ a b => inP P a ∧ inP P b
  | .un k a => .un k a ∈ P ∧ inP P a
def ClP (P : List Fm) : Prop := ∀ g ∈ P, inP P g
/-- truth in a model -/
def sat {W : Type} (R : W → W → Prop) (V : Nat → W → Prop) : Fm → W → Prop
  | .var s, x => V s x
  | .fls, _ => False
  | .bin .and a b, x => sat R V a x ∧ sat R V b x
  | .bin .or a b, x => sat R V a x ∨ sat R V b x
  | .bin .imp a b, x => sat R V a x → sat R V b x
  | .un .box a, x => ∀ y, R x y → sat R V a y
  | .un .dia a, x => ∃ y, R x y ∧ sat R V a y
/-- the models of GL -/
structure GLM {W : Type} (R : W → W → Prop) : Prop where
  tra : ∀ x y z, R x y → R y z → R x z
  wf : WellFounded fun y x => R x y
open Classical in
/-- the type of a world -/
noncomputable def tpW {W : Type} (R : W → W → Prop) (V : Nat → W → Prop) (P : List Fm) (x : W) : Nat := msk (fun i => decide (sat R V (P.getD i .fls) x)) P.length
theorem tpW_bit {W : Type} (R : W → W → Prop) (V : Nat → W → Prop) (P : List Fm) (x : W) {i : Nat} (hi : i < P.length) : (tpW R V P x).testBit i = true ↔ sat R V (P.getD i .fls) x := by
  unfold tpW
  rw [msk_testBit]
  simp [hi]
theorem tpW_vt {W : Type} (R : W → W → Prop) (V : Nat → W → Prop) (P : List Fm) (x : W) : ∀ f : Fm, inP P f → (vt P (tpW R V P x) f = true ↔ sat R V f x) := by
  intro f
  induction f with
  | var s =>
    intro h
    obtain ⟨h1, h2⟩ := ixT_mem h
    rw [vt, tpW_bit R V P x h1, h2]
  | fls => intro _; simp [vt, sat]
  | un k a ih =>
    intro h
    obtain ⟨h1, h2⟩ := ixT_mem h.1
    rw [vt, tpW_bit R V P x h1, h2]
  | bin k a b iha ihb =>
    intro h
    have ea := iha h.1
    have eb := ihb h.2
    cases k
    · rw [vt, sat, Bool.and_eq_true, ea, eb]
    · rw [vt, sat, Bool.or_eq_true, ea, eb]
    · rw [vt, sat, ← ea, ← eb]
      cases vt P (tpW R V P x) a <;> cases vt P (tpW R V P x) b <;> simp
theorem msk_ltT (p : Nat → Bool) : ∀ k, msk p k < 2 ^ k
  | 0 => by simp [msk]
  | k + 1 => by
    rw [msk]
    have h := msk_ltT p k
    have h2 : 2 ^ k < 2 ^ (k + 1) := Nat.pow_lt_pow_right (by decide) (by omega)
    refine Nat.or_lt_two_pow (Nat.lt_trans h h2) ?_
    split
    · exact h2
    · exact Nat.pow_pos (by decide)
/-- a part with a modality and what it demands at a world -/
theorem dmd_sat {W : Type} {R : W → W → Prop} {V : Nat → W → Prop} {P : List Fm} {x : W} {i : Nat} (hi : i < P.length) {k : UK} {a : Fm} (e : P.getD i .fls = .un k a) : dmd P (tpW R V P x) i = true ↔ (k.bx = true ∧ ∀ y, R x y → sat R V a y) ∨ (k.bx = false ∧ ¬ ∃ y, R x y ∧ sat R V a y) := by
  have h := tpW_bit R V P x hi
  rw [e] at h
  unfold dmd
  rw [e]
  simp only [beq_iff_eq]
  cases k
  · simp only [UK.bx, true_and, Bool.true_eq_false, false_and, or_false]
    exact h
  · have h2 : (tpW R V P x).testBit i = true ↔ ∃ y, R x y ∧ sat R V a y := h
    simp only [UK.bx, Bool.false_eq_true, false_and, true_and, false_or]
    rw [← h2]
    cases (tpW R V P x).testBit i <;> simp
theorem mts_sat {W : Type} {R : W → W → Prop} {V : Nat → W → Prop} {P : List Fm} {x : W} {i : Nat} {k : UK} {a : Fm} (e : P.getD i .fls = .un k a) (ha : inP P a) : mts P (tpW R V P x) i = true ↔ (k.bx = true ∧ sat R V a x) ∨ (k.bx = false ∧ ¬ sat R V a x) := by
  have h := tpW_vt R V P x a ha
  unfold mts
  rw [e]
  simp only [beq_iff_eq]
  cases k
  · simp only [UK.bx, true_and, Bool.true_eq_false, false_and, or_false]
    exact h
  · simp only [UK.bx, Bool.false_eq_true, false_and, true_and, false_or]
    rw [← h]
    cases vt P (tpW R V P x) a <;> simp
theorem ism_at {P : List Fm} {i : Nat} (h : ism P i = true) : ∃ k a, P.getD i .fls = .un k a := by
  unfold ism at h
  split at h
  · rename_i k a e; exact ⟨k, a, e⟩
  · cases h
theorem getD_memT {P : List Fm} {i : Nat} (hi : i < P.length) : P.getD i .fls ∈ P := by
  rw [List.getD_eq_getElem?_getD, List.getElem?_eq_getElem hi, Option.getD_some]
  exact List.getElem_mem hi
theorem psT_iff (P : List Fm) (t u : Nat) : psT P t u = true ↔ ∀ i, i < P.length → ism P i = true → dmd P t i = true → mts P u i = true ∧ dmd P u i = true := by
  unfold psT
  rw [List.all_eq_true]
  constructor
  · intro h i hi h1 h2
    have := h i (List.mem_range.2 hi)
    simpa [h1, h2] using this
  · intro h i hi
    have := h i (List.mem_range.1 hi)
    cases h1 : ism P i
    · rfl
    · cases h2 : dmd P t i
      · rfl
      · have := this h1 h2
        simp [this]
theorem stT_iff (P : List Fm) (t u : Nat) : stT P t u = true ↔ ∃ i, i < P.length ∧ ism P i = true ∧ dmd P u i = true ∧ dmd P t i = false := by
  unfold stT
  rw [List.any_eq_true]
  constructor
  · rintro ⟨i, hi, h⟩
    simp only [Bool.and_eq_true, Bool.not_eq_true'] at h
    exact ⟨i, List.mem_range.1 hi, h.1.1, h.1.2, h.2⟩
  · rintro ⟨i, hi, h1, h2, h3⟩
    exact ⟨i, List.mem_range.2 hi, by simp [h1, h2, h3]⟩
/-- the last world above one that is bad -/
theorem GLM.last {W : Type} {R : W → W → Prop} (h : GLM R) (Q : W → Prop) : ∀ x, (∃ y, R x y ∧ Q y) → ∃ y, R x y ∧ Q y ∧ ∀ z, R y z → ¬ Q z := by
  intro x ⟨y, hy, hq⟩
  induction y using h.wf.induction with
  | _ y ih =>
    by_cases hz : ∃ z, R y z ∧ Q z
    · obtain ⟨z, hz, hq2⟩ := hz
      exact ih z hz (h.tra _ _ _ hy hz) hq2
    · exact ⟨y, hy, hq, fun z h1 h2 => hz ⟨z, h1, h2⟩⟩
theorem tpW_post {W : Type} {R : W → W → Prop} (h : GLM R) (V : Nat → W → Prop) {P : List Fm} (hc : ClP P) : Post P fun t => ∃ x, t = tpW R V P x := by
  rintro t ⟨x, rfl⟩
  refine ⟨msk_ltT _ _, fun i hi hm hd => ?_⟩
  obtain ⟨k, a, e⟩ := ism_at hm
  have hin : ∀ {j k a}, j < P.length → P.getD j .fls = .un k a → inP P a := fun {j k a} hj e2 => by
    have := hc _ (getD_memT hj)
    rw [e2] at this
    exact this.2
  have hps : ∀ y, R x y → psT P (tpW R V P x) (tpW R V P y) = true := fun y hy => by
    rw [psT_iff]
    intro j hj h1 h2
    obtain ⟨k2, a2, e2⟩ := ism_at h1
    rw [dmd_sat hj e2] at h2 ⊢
    rw [mts_sat e2 (hin hj e2)]
    rcases h2 with ⟨h3, h4⟩ | ⟨h3, h4⟩
    · exact ⟨.inl ⟨h3, h4 y hy⟩, .inl ⟨h3, fun z hz => h4 z (h.tra _ _ _ hy hz)⟩⟩
    · exact ⟨.inr ⟨h3, fun h5 => h4 ⟨y, hy, h5⟩⟩, .inr ⟨h3, fun ⟨z, hz, h5⟩ => h4 ⟨z, h.tra _ _ _ hy hz, h5⟩⟩⟩
  have hx : ∃ y, R x y ∧ ¬ (mts P (tpW R V P y) i = true) := by
    have hd2 : ¬ dmd P (tpW R V P x) i = true := by rw [hd]; decide
    rw [dmd_sat hi e] at hd2
    cases k
    · have h3 : ¬ ∀ y, R x y → sat R V a y := fun h4 => hd2 (.inl ⟨rfl, h4⟩)
      obtain ⟨y, h4⟩ := Classical.not_forall.1 h3
      obtain ⟨h4, h5⟩ := Classical.not_imp.1 h4
      refine ⟨y, h4, fun h6 => ?_⟩
      rw [mts_sat e (hin hi e)] at h6
      rcases h6 with h6 | h6
      · exact h5 h6.2
      · exact absurd h6.1 (by decide)
    · have h3 : ∃ y, R x y ∧ sat R V a y := Classical.byContradiction fun h4 => hd2 (.inr ⟨rfl, h4⟩)
      obtain ⟨y, h4, h5⟩ := h3
      refine ⟨y, h4, fun h6 => ?_⟩
      rw [mts_sat e (hin hi e)] at h6
      rcases h6 with h6 | h6
      · exact absurd h6.1 (by decide)
      · exact h6.2 h5
  obtain ⟨y, hy, hq, hl⟩ := h.last _ x hx
  have hdy : dmd P (tpW R V P y) i = true := by
    rw [dmd_sat hi e]
    cases k
    · refine .inl ⟨rfl, fun z hz => ?_⟩
      have := Classical.not_not.1 (hl z hz)
      rw [mts_sat e (hin hi e)] at this
      rcases this with h6 | h6
      · exact h6.2
      · exact absurd h6.1 (by decide)
    · refine .inr ⟨rfl, fun ⟨z, hz, h5⟩ => ?_⟩
      have := Classical.not_not.1 (hl z hz)
      rw [mts_sat e (hin hi e)] at this
      rcases this with h6 | h6
      · exact absurd h6.1 (by decide)
      · exact h6.2 h5
  refine ⟨_, ⟨y, rfl⟩, ?_⟩
  unfold wiT seT
  rw [hps y hy, (stT_iff _ _ _).2 ⟨i, hi, hm, hdy, hd⟩, hdy]
  simpa using hq
/-- a sequent that no living type refutes is true in all models -/
theorem ThmT.valid {P L R : List Fm} (hT : ThmT P L R) (hc : ClP P) (hL : ∀ f ∈ L, inP P f) (hR : ∀ f ∈ R, inP P f) {W : Type} {Q : W → W → Prop} (h : GLM Q) (V : Nat → W → Prop) (x : W) (hl : ∀ f ∈ L, sat Q V f x) : ∃ f ∈ R, sat Q V f x := by
  have hA : Alv P (tpW Q V P x) := ⟨_, tpW_post h V hc, x, rfl⟩
  obtain ⟨f, hf, h2⟩ := hT _ hA fun f hf => (tpW_vt Q V P x f (hL f hf)).2 (hl f hf)
  exact ⟨f, hf, (tpW_vt Q V P x f (hR f hf)).1 h2⟩
/-- the model of the living types -/
def aR (P : List Fm) (t u : {t // Alv P t}) : Prop := seT P t.1 u.1 = true
def aV (P : List Fm) (s : Nat) (t : {t // Alv P t}) : Prop := vt P t.1 (.var s) = true
theorem seT_tra {P : List Fm} {t u v : Nat} (h : seT P t u = true) (h' : seT P u v = true) : seT P t v = true := by
  unfold seT at *
  rw [Bool.and_eq_true] at *
  obtain ⟨h1, h2⟩ := h
  obtain ⟨h3, h4⟩ := h'
  rw [psT_iff] at *
  rw [stT_iff] at *
  refine ⟨fun i hi hm hd => h3 i hi hm (h1 i hi hm hd).2, ?_⟩
  obtain ⟨i, hi, hm, h5, h6⟩ := h4
  refine ⟨i, hi, hm, h5, ?_⟩
  cases h7 : dmd P t i
  · rfl
  · rw [(h1 i hi hm h7).2] at h6; cases h6
/-- how many parts demand something -/
def cnT (P : List Fm) (t : Nat) : Nat := ((List.range P.length).filter fun i => ism P i && dmd P t i).length
theorem filter_lt {α : Type} (p q : α → Bool) : ∀ (l : List α), (∀ x ∈ l, p x = true → q x = true) → (∃ x ∈ l, q x = true ∧ p x = false) → (l.filter p).length < (l.filter q).length
  | [], _, ⟨x, hx, _⟩ => by simp at hx
  | y :: l, h, he => by
    have hle : ∀ l' : List α, (∀ x ∈ l', p x = true → q x = true) → (l'.filter p).length ≤ (l'.filter q).length := fun l' h' => by
      induction l' with
      | nil => simp
      | cons z r ih =>
        have h3 := ih fun x hx => h' x (by simp [hx])
        have h4 := h' z (by simp)
        cases hp : p z
        · cases hq : q z <;> simp [hp, hq] <;> omega
        · simp [hp, h4 hp]; omega
    have h1 := hle l fun x hx => h x (by simp [hx])
    obtain ⟨x, hx, hq, hp⟩ := he
    rcases List.mem_cons.1 hx with rfl | hx
    · simp [hp, hq]; omega
    · have h2 := filter_lt p q l (fun x hx => h x (by simp [hx])) ⟨x, hx, hq, hp⟩
      have h4 := h y (by simp)
      cases hp2 : p y
      · cases hq2 : q y <;> simp [hp2, hq2] <;> omega
      · simp [hp2, h4 hp2]; omega
theorem seT_cn {P : List Fm} {t u : Nat} (h : seT P t u = true) : cnT P t < cnT P u := by
  unfold seT at h
  rw [Bool.and_eq_true, psT_iff, stT_iff] at h
  refine filter_lt _ _ _ (fun i hi hp => ?_) ?_
  · rw [Bool.and_eq_true] at hp ⊢
    exact ⟨hp.1, (h.1 i (List.mem_range.1 hi) hp.1 hp.2).2⟩
  · obtain ⟨i, hi, h1, h2, h3⟩ := h.2
    exact ⟨i, List.mem_range.2 hi, by simp [h1, h2], by simp [h3]⟩
theorem cnT_le (P : List Fm) (t : Nat) : cnT P t ≤ P.length := by
  have := List.length_filter_le (fun i => ism P i && dmd P t i) (List.range P.length)
  rwa [List.length_range] at this
theorem aR_glm (P : List Fm) : GLM (aR P) := ⟨fun x y z h h' => seT_tra h h', by
  have h : WellFounded (measure fun t : {t // Alv P t} => P.length - cnT P t.1).rel := (measure _).wf
  refine Subrelation.wf (fun {y x} hxy => ?_) h
  have h1 := seT_cn hxy
  have h2 := cnT_le P y.1
  show P.length - cnT P y.1 < P.length - cnT P x.1
  omega⟩
theorem aR_sat {P : List Fm} (hc : ClP P) : ∀ (f : Fm), inP P f → ∀ t : {t // Alv P t}, (sat (aR P) (aV P) f t ↔ vt P t.1 f = true) := by
  intro f
  induction f with
  | var s => intro _ t; rfl
  | fls => intro _ t; simp [sat, vt]
  | bin k a b iha ihb =>
    intro h t
    have ea := iha h.1 t
    have eb := ihb h.2 t
    cases k
    · rw [vt, sat, Bool.and_eq_true, ea, eb]
    · rw [vt, sat, Bool.or_eq_true, ea, eb]
    · rw [vt, sat, ea, eb]
      cases vt P t.1 a <;> cases vt P t.1 b <;> simp
  | un k a ih =>
    intro h t
    obtain ⟨hi, e⟩ := ixT_mem h.1
    have hm : ism P (ixT P (.un k a)) = true := by unfold ism; rw [e]
    have hd : dmd P t.1 (ixT P (.un k a)) = (vt P t.1 (.un k a) == k.bx) := by unfold dmd; rw [e]; rfl
    have hmt : ∀ u, mts P u (ixT P (.un k a)) = (vt P u a == k.bx) := fun u => by unfold mts; rw [e]
    have hall : dmd P t.1 (ixT P (.un k a)) = true → ∀ u : {t // Alv P t}, aR P t u → (vt P u.1 a == k.bx) = true := fun h1 u hu => by
      have hu2 : seT P t.1 u.1 = true := hu
      unfold seT at hu2
      rw [Bool.and_eq_true, psT_iff] at hu2
      have := (hu2.1 _ hi hm h1).1
      rwa [hmt] at this
    have hex : dmd P t.1 (ixT P (.un k a)) = false → ∃ u : {t // Alv P t}, aR P t u ∧ (vt P u.1 a == k.bx) = false := fun h1 => by
      obtain ⟨u, hu, hw⟩ := (Alv.post P t.1 t.2).2 _ hi hm h1
      unfold wiT at hw
      simp only [Bool.and_eq_true, Bool.not_eq_true'] at hw
      refine ⟨⟨u, hu⟩, hw.1.1, ?_⟩
      rw [← hmt]
      exact hw.1.2
    rw [hd] at hall hex
    cases k
    · show (∀ u, aR P t u → sat (aR P) (aV P) a u) ↔ _
      cases hv : vt P t.1 (.un .box a)
      · obtain ⟨u, hu, h2⟩ := hex (by rw [hv]; rfl)
        refine ⟨fun h3 => ?_, fun h3 => by cases h3⟩
        have := (ih h.2 u).1 (h3 u hu)
        rw [this] at h2
        cases h2
      · refine ⟨fun _ => rfl, fun _ u hu => (ih h.2 u).2 ?_⟩
        have := hall (by rw [hv]; rfl) u hu
        simpa [UK.bx] using this
    · show (∃ u, aR P t u ∧ sat (aR P) (aV P) a u) ↔ _
      cases hv : vt P t.1 (.un .dia a)
      · refine ⟨fun ⟨u, hu, h3⟩ => ?_, fun h3 => by cases h3⟩
        have := hall (by rw [hv]; rfl) u hu
        rw [(ih h.2 u).1 h3] at this
        cases this
      · obtain ⟨u, hu, h2⟩ := hex (by rw [hv]; rfl)
        refine ⟨fun _ => rfl, fun _ => ⟨u, hu, (ih h.2 u).2 ?_⟩⟩
        cases h3 : vt P u.1 a
        · rw [h3] at h2; cases h2
        · rfl
/-- a sequent that is true in all models is refuted by no living type -/
theorem ThmT.of {P L R : List Fm} (hc : ClP P) (hL : ∀ f ∈ L, inP P f) (hR : ∀ f ∈ R, inP P f) (h : ∀ (W : Type) (Q : W → W → Prop), GLM Q → ∀ V x, (∀ f ∈ L, sat Q V f x) → ∃ f ∈ R, sat Q V f x) : ThmT P L R := by
  intro t ht hl
  obtain ⟨f, hf, h2⟩ := h _ _ (aR_glm P) (aV P) ⟨t, ht⟩ fun f hf => (aR_sat hc f (hL f hf) ⟨t, ht⟩).2 (hl f hf)
  exact ⟨f, hf, (aR_sat hc f (hR f hf) ⟨t, ht⟩).1 h2⟩
/- Plain law: in the models of GL a guarded formula has at most one fixed point, and the built one is one. No program in sight. -/
/-- the values with another one for a letter -/
def updV {W : Type} (V : Nat → W → Prop) (s : Nat) (M : W → Prop) : Nat → W → Prop := fun t x => if t = s then M x else V t x
theorem updV_self {W : Type} (V : Nat → W → Prop) (s : Nat) (M : W → Prop) (x : W) : updV V s M s x ↔ M x := by unfold updV; rw [if_pos rfl]
theorem updV_ne {W : Type} (V : Nat → W → Prop) {s t : Nat} (M : W → Prop) (x : W) (h : t ≠ s) : updV V s M t x ↔ V t x := by unfold updV; rw [if_neg h]
theorem updV_updV {W : Type} (V : Nat → W → Prop) (s : Nat) (M M' : W → Prop) : updV (updV V s M) s M' = updV V s M' := by
  funext t x
  unfold updV
  by_cases h : t = s
  · rw [if_pos h, if_pos h]
  · rw [if_neg h, if_neg h, if_neg h]
theorem sun_congr {W : Type} {R : W → W → Prop} {V V' : Nat → W → Prop} (k : UK) {a a' : Fm} {x : W} (e : ∀ v, R x v → (sat R V a v ↔ sat R V' a' v)) : sat R V (.un k a) x ↔ sat R V' (.un k a') x := by
  cases k
  · exact ⟨fun h v hv => (e v hv).1 (h v hv), fun h v hv => (e v hv).2 (h v hv)⟩
  · exact ⟨fun ⟨v, hv, h⟩ => ⟨v, hv, (e v hv).1 h⟩, fun ⟨v, hv, h⟩ => ⟨v, hv, (e v hv).2 h⟩⟩
theorem sbin_congr {W : Type} {R : W → W → Prop} {V V' : Nat → W → Prop} (k : BK) {a a' b b' : Fm} {x : W} (ea : sat R V a x ↔ sat R V' a' x) (eb : sat R V b x ↔ sat R V' b' x) : sat R V (.bin k a b) x ↔ sat R V' (.bin k a' b') x := by
  cases k
  · exact and_congr ea eb
  · exact or_congr ea eb
  · exact imp_congr ea eb
theorem sat_up {W : Type} {R : W → W → Prop} {V : Nat → W → Prop} {U : W → Prop} (hU : ∀ x y, U x → R x y → U y) {s : Nat} {M M' : W → Prop} (e : ∀ x, U x → (M x ↔ M' x)) : ∀ (g : Fm) (x : W), U x → (sat R (updV V s M) g x ↔ sat R (updV V s M') g x) := by
  intro g
  induction g with
  | var t =>
    intro x hx
    by_cases ht : t = s
    · subst ht; show updV V t M t x ↔ updV V t M' t x
      rw [updV_self, updV_self]; exact e x hx
    · show updV V s M t x ↔ updV V s M' t x
      rw [updV_ne V M x ht, updV_ne V M' x ht]
  | fls => intro x hx; exact Iff.rfl
  | bin k a b iha ihb => intro x hx; exact sbin_congr k (iha x hx) (ihb x hx)
  | un k a ih => intro x hx; exact sun_congr k fun v hv => ih v (hU x v hx hv)
theorem sat_gd {W : Type} {R : W → W → Prop} (h : GLM R) {V : Nat → W → Prop} {s : Nat} {M M' : W → Prop} {x : W} (e : ∀ y, R x y → (M y ↔ M' y)) : ∀ (f : Fm), gd f s = true → (sat R (updV V s M) f x ↔ sat R (updV V s M') f x) := by
  intro f
  induction f with
  | var t =>
    intro hg
    have ht : t ≠ s := by simpa [gd] using hg
    show updV V s M t x ↔ updV V s M' t x
    rw [updV_ne V M x ht, updV_ne V M' x ht]
  | fls => intro _; exact Iff.rfl
  | bin k a b iha ihb =>
    intro hg
    simp only [gd, Bool.and_eq_true] at hg
    exact sbin_congr k (iha hg.1) (ihb hg.2)
  | un k a ih => intro _; exact sun_congr k fun v hv => sat_up (U := R x) (fun y z hy hz => h.tra x y z hy hz) e a v hv
/-- at most one fixed point -/
theorem sat_uniq {W : Type} {R : W → W → Prop} (h : GLM R) {V : Nat → W → Prop} {U : W → Prop} (hU : ∀ x y, U x → R x y → U y) {s : Nat} {M M' : W → Prop} {f : Fm} (hg : gd f s = true) (e : ∀ x, U x → (sat R (updV V s M) f x ↔ M x)) (e' : ∀ x, U x → (sat R (updV V s M') f x ↔ M' x)) : ∀ x, U x → (M x ↔ M' x) := by
  intro x
  induction x using h.wf.induction with
  | _ x ih =>
    intro hu
    rw [← e x hu, ← e' x hu]
    exact sat_gd h (fun y hy => ih y hy (hU x y hu hy)) f hg
theorem sat_sub {W : Type} {R : W → W → Prop} (V : Nat → W → Prop) (s : Nat) (d : Fm) : ∀ (g : Fm) (x : W), sat R V (g.sub s d) x ↔ sat R (updV V s (sat R V d)) g x := by
  intro g
  induction g with
  | var t =>
    intro x
    rw [Fm.sub]
    by_cases ht : t = s
    · subst ht
      rw [if_pos rfl]
      exact (updV_self V t (sat R V d) x).symm
    · rw [if_neg ht]
      exact (updV_ne V (sat R V d) x ht).symm
  | fls => intro x; exact Iff.rfl
  | bin k a b iha ihb => intro x; exact sbin_congr k (iha x) (ihb x)
  | un k a ih => intro x; exact sun_congr k fun v _ => ih v
theorem sat_occ {W : Type} {R : W → W → Prop} (V : Nat → W → Prop) (s : Nat) (M : W → Prop) : ∀ (g : Fm) (x : W), g.occ s = false → (sat R V g x ↔ sat R (updV V s M) g x) := by
  intro g
  induction g with
  | var t =>
    intro x h
    have ht : t ≠ s := by intro e; subst e; simp [Fm.occ] at h
    exact (updV_ne V M x ht).symm
  | fls => intro x _; exact Iff.rfl
  | bin k a b iha ihb =>
    intro x h
    simp only [Fm.occ, Bool.or_eq_false_iff] at h
    exact sbin_congr k (iha x h.1) (ihb x h.2)
  | un k a ih =>
    intro x h
    simp only [Fm.occ] at h
    exact sun_congr k fun v _ => ih v h
theorem sat_rep {W : Type} {R : W → W → Prop} {V : Nat → W → Prop} {s : Nat} {M : W → Prop} {x : W} {r : Fm → Fm} : ∀ (f : Fm), gd f s = true → (∀ g ∈ occs s f, (sat R V (r g) x ↔ sat R (updV V s M) g x)) → (∀ g : Fm, g.occ s = false → (sat R V g x ↔ sat R (updV V s M) g x)) → (sat R V (repO s r f) x ↔ sat R (updV V s M) f x) := by
  intro f
  induction f with
  | var t =>
    intro hg _ hn
    have ht : t ≠ s := by simpa [gd] using hg
    rw [repO]
    · exact hn (.var t) (by simp [Fm.occ, ht])
    all_goals simp
  | fls => intro _ _ _; exact Iff.rfl
  | bin k a b iha ihb =>
    intro hg hr hn
    simp only [gd, Bool.and_eq_true] at hg
    rw [repO]
    exact sbin_congr k (iha hg.1 (fun g hgm => hr g (by rw [occs]; exact List.mem_append_left _ hgm)) hn) (ihb hg.2 (fun g hgm => hr g (by rw [occs]; exact List.mem_append_right _ hgm)) hn)
  | un k a ih =>
    intro _ hr hn
    rw [repO]
    by_cases ho : a.occ s = true
    · rw [if_pos ho]; exact hr _ (by rw [occs, if_pos ho]; exact List.mem_singleton.2 rfl)
    · rw [if_neg ho]
      exact hn (.un k a) (by simpa [Fm.occ] using ho)
theorem sat_cst1 {W : Type} {R : W → W → Prop} (V : Nat → W → Prop) (g : Fm) (x : W) : sat R V (cst1 g) x ↔ isbox g = true := by
  unfold cst1
  cases isbox g
  · simp [sat]
  · rw [if_pos rfl]; simp [truF, sat]
theorem sat_cup {W : Type} {R : W → W → Prop} (h : GLM R) {V : Nat → W → Prop} {k : UK} {a : Fm} {x y : W} (hy : R x y) (e : sat R V (.un k a) x ↔ isbox (.un k a) = true) : sat R V (.un k a) y ↔ isbox (.un k a) = true := by
  cases k with
  | box => exact ⟨fun _ => rfl, fun _ v hv => e.2 rfl v (h.tra x y v hy hv)⟩
  | dia => exact ⟨fun ⟨v, hv, k⟩ => e.1 ⟨v, h.tra x y v hy hv, k⟩, fun k => by cases k⟩
/-- where the i-th outer part has its constant's value, nothing changes -/
theorem sat_wto {W : Type} {R : W → W → Prop} {V : Nat → W → Prop} {s : Nat} {M : W → Prop} {x : W} {f : Fm} (hg : gd f s = true) {i : Nat} (hi : i < (outs s f []).length) (e : sat R (updV V s M) ((outs s f []).getD i .fls) x ↔ isbox ((outs s f []).getD i .fls) = true) : sat R (updV V s M) (wto s f i) x ↔ sat R (updV V s M) f x := by
  unfold wto
  have key := sat_rep (R := R) (V := updV V s M) (s := s) (M := M) (x := x) (r := ims (outs s f []) ((outs s f []).set i (cst1 ((outs s f []).getD i .fls)))) f hg (fun g hgm => by
    rw [updV_updV, ims_set (ix_outs hgm)]
    have hgi : (outs s f []).getD (ix (outs s f []) g) .fls = g := enc_eqT (ix_at (ix_outs hgm))
    by_cases hii : ix (outs s f []) g = i
    · rw [if_pos hii, sat_cst1]
      rw [hii] at hgi
      rw [← e, hgi]
    · rw [if_neg hii, hgi]) (fun g hgo => by rw [updV_updV])
  rw [updV_updV] at key
  exact key
/-- the built fixed point is one -/
theorem sat_built {W : Type} {R : W → W → Prop} (h : GLM R) (V : Nat → W → Prop) {s : Nat} : ∀ (n : Nat) (f d : Fm), gd f s = true → (outs s f []).length ≤ n → bldS s n f = some d → ∀ x, (sat R (updV V s (sat R V d)) f x ↔ sat R V d x) := by
  have base : ∀ f : Fm, gd f s = true → (outs s f []).length = 0 → ∀ x, (sat R (updV V s (sat R V f)) f x ↔ sat R V f x) := by
    intro f hg h0 x
    have ho : f.occ s = false := by
      cases e : f.occ s with
      | false => rfl
      | true => exact absurd (outs_nil.1 (List.length_eq_zero_iff.1 h0)) ((gd_occ hg).1 e)
    exact (sat_occ V s _ f x ho).symm
  intro n
  induction n with
  | zero =>
    intro f d hg hl hd x
    rw [bldS] at hd
    obtain rfl := Option.some.inj hd
    exact base f hg (by omega) x
  | succ n IH =>
    intro f d hg hl hd
    rw [bldS] at hd
    split at hd
    · rename_i h0
      obtain rfl := Option.some.inj hd
      exact fun x => base f hg h0 x
    · split at hd
      · cases hd
      · rename_i I hto
        split at hd
        · cases hd
        · obtain rfl := Option.some.inj hd
          obtain ⟨hlen, hform⟩ := imsTo_form hto
          generalize hO : outs s f [] = O at *
          have img : ∀ g ∈ occs s f, ∃ D : W → Prop, (∀ y, (sat R (updV V s D) (wto s f (ix O g)) y ↔ D y)) ∧ ∀ x, (sat R V (ims O I g) x ↔ sat R (updV V s D) g x) := by
            intro g hgm
            have hi : ix O g < O.length := hO ▸ ix_outs hgm
            obtain ⟨di, hb, hIi⟩ := hform _ hi
            have hgi : O.getD (ix O g) .fls = g := enc_eqT (ix_at hi)
            refine ⟨sat R V di, IH _ di (wto_gd hg _) (by have := wto_outs (s := s) (f := f) (i := ix O g) (by rw [hO]; exact hi); rw [hO] at this; omega) hb, fun x => ?_⟩
            show sat R V (I.getD (ix O g) .fls) x ↔ _
            rw [hIi, hgi, sat_sub V s]
          generalize hM : sat R V (repO s (ims O I) f) = M at *
          have step : ∀ x, (∀ g ∈ occs s f, (sat R V (ims O I g) x ↔ sat R (updV V s M) g x)) → (sat R (updV V s M) f x ↔ M x) := by
            intro x hc
            have := sat_rep (M := M) f hg hc (fun g hg => sat_occ V s M g x hg)
            rw [hM] at this
            exact this.symm
          have all : ∀ x, ∀ g ∈ occs s f, (sat R V (ims O I g) x ↔ sat R (updV V s M) g x) := by
            intro x
            induction x using h.wf.induction with
            | _ x ih =>
              intro g hgm
              have hA : ∀ y, R x y → (sat R (updV V s M) f y ↔ M y) := fun y hy => step y (ih y hy)
              obtain ⟨D, hD, hE⟩ := img g hgm
              have hi : ix O g < O.length := hO ▸ ix_outs hgm
              have hgi : O.getD (ix O g) .fls = g := enc_eqT (ix_at hi)
              have hw : ∀ (m : W → Prop) y, (sat R (updV V s m) g y ↔ isbox g = true) → (sat R (updV V s m) (wto s f (ix O g)) y ↔ sat R (updV V s m) f y) := fun m y e =>
                sat_wto hg (by rw [hO]; exact hi) (by rw [hO, hgi]; exact e)
              rw [hE]
              obtain ⟨k, a, rfl, -⟩ := occs_mem hgm
              have same : (∀ y, R x y → (D y ↔ M y)) → (sat R (updV V s D) (.un k a) x ↔ sat R (updV V s M) (.un k a) x) := fun e => sun_congr k fun v hv => sat_up (U := R x) (fun y z hy hz => h.tra x y z hy hz) e a v hv
              by_cases h1 : sat R (updV V s D) (.un k a) x ↔ isbox (.un k a) = true
              · exact same (sat_uniq h (fun y z hy hz => h.tra x y z hy hz) hg (fun y hy => by rw [← hw D y (sat_cup h hy h1)]; exact hD y) hA)
              · by_cases h2 : sat R (updV V s M) (.un k a) x ↔ isbox (.un k a) = true
                · exact same (sat_uniq h (fun y z hy hz => h.tra x y z hy hz) (wto_gd hg _) (fun y _ => hD y) (fun y hy => by rw [hw M y (sat_cup h hy h2)]; exact hA y hy))
                · by_cases e1 : sat R (updV V s D) (.un k a) x <;> by_cases e2 : sat R (updV V s M) (.un k a) x <;> by_cases e3 : isbox (.un k a) = true <;> simp_all
          exact fun x => step x (all x)
/-- the formula that says that two fixed points are equal -/
theorem uniq_valid {W : Type} {R : W → W → Prop} (h : GLM R) (V : Nat → W → Prop) {f : Fm} {s t : Nat} (hg : gd f s = true) (ht : f.occ t = false) (hst : t ≠ s) (x : W) :
    sat R V (.bin .imp (.un .box (.bin .and (.bin .and (.bin .imp (.var s) f) (.bin .imp f (.var s))) ((Fm.bin .and (.bin .imp (.var s) f) (.bin .imp f (.var s))).sub s (.var t)))) (.un .box (.bin .imp (.var s) (.var t)))) x := by
  intro hb y hy
  have e1 : ∀ z, R x z → (sat R (updV V s (V s)) f z ↔ V s z) := fun z hz => by
    have := (hb z hz).1
    have h1 : sat R V (.var s) z → sat R V f z := this.1
    have h2 : sat R V f z → sat R V (.var s) z := this.2
    have e : updV V s (V s) = V := by
      funext t x
      unfold updV
      by_cases ht : t = s
      · rw [if_pos ht, ht]
      · rw [if_neg ht]
    rw [e]
    exact ⟨h2, h1⟩
  have e2 : ∀ z, R x z → (sat R (updV V s (V t)) f z ↔ V t z) := fun z hz => by
    have := (sat_sub V s (.var t) _ z).1 (hb z hz).2
    have e : updV V s (sat R V (.var t)) = updV V s (V t) := rfl
    rw [e] at this
    have h1 : updV V s (V t) s z → sat R (updV V s (V t)) f z := this.1
    have h2 : sat R (updV V s (V t)) f z → updV V s (V t) s z := this.2
    rw [updV_self] at h1 h2
    exact ⟨h2, h1⟩
  exact (sat_uniq h (fun y z hy hz => h.tra x y z hy hz) hg e1 e2 y hy).1
/- Plain law: the elementary parts of some formulas, in the order of their texts; the first rounds of taking types away. No program in sight. -/
theorem txt_inj {a b : Fm} (ha : a.ok = true) (hb : b.ok = true) (h : txt a = txt b) : a = b := by
  have h1 := txt_read a ha
  have h2 := txt_read b hb
  rw [h] at h1
  exact (h1.one h2).1
theorem t8_inj {a b : ByteArray} (h : t8 a = t8 b) : a = b := by
  have e : ∀ c : ByteArray, (⟨⟨t8 c⟩⟩ : ByteArray) = c := fun c => rfl
  rw [← e a, ← e b, h]
open Classical in
/-- the formula with a text -/
noncomputable def rdT (t : T8) : Fm := if h : ∃ g : Fm, g.ok = true ∧ t8 (txt g) = t then h.choose else .fls
theorem rdT_txt {g : Fm} (h : g.ok = true) : rdT (t8 (txt g)) = g := by
  have hx : ∃ g' : Fm, g'.ok = true ∧ t8 (txt g') = t8 (txt g) := ⟨g, h, rfl⟩
  unfold rdT
  rw [dif_pos hx]
  exact txt_inj hx.choose_spec.1 h (t8_inj hx.choose_spec.2)
/-- the texts of all parts of some formulas -/
def alL (fs : List Fm) : List T8 := fs.flatMap fun f => sbT8 f (enc f).length
def alT (fs : List Fm) : List T8 := sbI8 (alL fs)
theorem sbT8_mem {f : Fm} {t : T8} : t ∈ sbT8 f (enc f).length ↔ ∃ g, Part f g ∧ t = t8 (txt g) := by
  unfold sbT8
  rw [List.mem_map]
  constructor
  · rintro ⟨i, hi, rfl⟩
    exact ⟨_, ⟨i, List.mem_range.1 hi, rfl⟩, rfl⟩
  · rintro ⟨g, ⟨i, hi, rfl⟩, rfl⟩
    exact ⟨i, List.mem_range.2 hi, rfl⟩
theorem sbI8_mem (xs : List T8) (t : T8) : t ∈ sbI8 xs ↔ t ∈ xs := by
  have := (foldI xs [] List.Pairwise.nil).2.1 t
  unfold sbI8
  rw [this]
  simp
theorem sbI8_asc (xs : List T8) : (sbI8 xs).Pairwise (· < ·) := (foldI xs [] List.Pairwise.nil).1
theorem alT_mem {fs : List Fm} {t : T8} : t ∈ alT fs ↔ ∃ f ∈ fs, ∃ g, Part f g ∧ t = t8 (txt g) := by
  unfold alT alL
  rw [sbI8_mem, List.mem_flatMap]
  constructor
  · rintro ⟨f, hf, h⟩; exact ⟨f, hf, sbT8_mem.1 h⟩
  · rintro ⟨f, hf, h⟩; exact ⟨f, hf, sbT8_mem.2 h⟩
theorem alT_eq {fs gs : List Fm} (h : ∀ f, f ∈ fs ↔ f ∈ gs) : alT fs = alT gs :=
  asc8_eq _ _ (sbI8_asc _) (sbI8_asc _) fun t => by
    show t ∈ alT fs ↔ t ∈ alT gs
    rw [alT_mem, alT_mem]
    constructor
    · rintro ⟨f, hf, r⟩; exact ⟨f, (h f).1 hf, r⟩
    · rintro ⟨f, hf, r⟩; exact ⟨f, (h f).2 hf, r⟩
/-- the elementary formulas with some texts -/
noncomputable def elT (ts : List T8) : List Fm := (ts.map rdT).filter isel
noncomputable def elF (fs : List Fm) : List Fm := elT (alT fs)
theorem elT_nil : elT [] = [] := rfl
theorem elT_snoc (ts : List T8) {g : Fm} (h : g.ok = true) : elT (ts ++ [t8 (txt g)]) = if isel g = true then elT ts ++ [g] else elT ts := by
  unfold elT
  rw [List.map_append, List.filter_append, List.map_singleton, rdT_txt h]
  by_cases e : isel g = true
  · rw [if_pos e, List.filter_cons_of_pos e]; rfl
  · rw [if_neg e, List.filter_cons_of_neg e]; simp
theorem elF_mem {fs : List Fm} (hok : ∀ f ∈ fs, f.ok = true) {g : Fm} : g ∈ elF fs ↔ isel g = true ∧ ∃ f ∈ fs, Part f g := by
  unfold elF elT
  rw [List.mem_filter, List.mem_map]
  constructor
  · rintro ⟨⟨t, ht, rfl⟩, h2⟩
    obtain ⟨f, hf, g, hp, rfl⟩ := alT_mem.1 ht
    rw [rdT_txt (part_ok (hok f hf) hp)] at h2 ⊢
    exact ⟨h2, f, hf, hp⟩
  · rintro ⟨h2, f, hf, hp⟩
    exact ⟨⟨t8 (txt g), alT_mem.2 ⟨f, hf, g, hp, rfl⟩, rdT_txt (part_ok (hok f hf) hp)⟩, h2⟩
theorem elF_eq {fs gs : List Fm} (h : ∀ f, f ∈ fs ↔ f ∈ gs) : elF fs = elF gs := by unfold elF; rw [alT_eq h]
theorem elF_ok {fs : List Fm} (hok : ∀ f ∈ fs, f.ok = true) {g : Fm} (h : g ∈ elF fs) : g.ok = true := by
  obtain ⟨-, f, hf, hp⟩ := (elF_mem hok).1 h
  exact part_ok (hok f hf) hp
theorem part_len {f g : Fm} (h : Part f g) : (enc g).length ≤ (enc f).length := by
  obtain ⟨i, rest, hi, e⟩ := h.at
  have := dc_more (by omega) e
  omega
theorem elF_len {fs : List Fm} (hok : ∀ f ∈ fs, f.ok = true) {n : Nat} (hl : ∀ f ∈ fs, (enc f).length ≤ n) {g : Fm} (h : g ∈ elF fs) : (enc g).length ≤ n := by
  obtain ⟨-, f, hf, hp⟩ := (elF_mem hok).1 h
  exact Nat.le_trans (part_len hp) (hl f hf)
theorem elF_in {fs : List Fm} (hok : ∀ f ∈ fs, f.ok = true) {f : Fm} (hf : f ∈ fs) : ∀ g, Part f g → inP (elF fs) g := by
  intro g
  induction g with
  | var s => intro h; exact (elF_mem hok).2 ⟨rfl, f, hf, h⟩
  | fls => intro _; trivial
  | bin k a b iha ihb => intro h; exact ⟨iha h.bin.1, ihb h.bin.2⟩
  | un k a ih => intro h; exact ⟨(elF_mem hok).2 ⟨rfl, f, hf, h⟩, ih h.un⟩
theorem elF_cl {fs : List Fm} (hok : ∀ f ∈ fs, f.ok = true) : ClP (elF fs) := fun g hg => by
  obtain ⟨-, f, hf, hp⟩ := (elF_mem hok).1 hg
  exact elF_in hok hf g hp
theorem elF_self {fs : List Fm} (hok : ∀ f ∈ fs, f.ok = true) {f : Fm} (hf : f ∈ fs) : inP (elF fs) f := elF_in hok hf f (Part.self f)
theorem alL_len (fs : List Fm) (h : ∀ f ∈ fs, (enc f).length ≤ 40) : (alL fs).length ≤ fs.length * 40 := by
  induction fs with
  | nil => simp [alL]
  | cons f fs ih =>
    have h1 := ih fun g hg => h g (by simp [hg])
    have h2 := h f (by simp)
    unfold alL at h1 ⊢
    rw [List.flatMap_cons, List.length_append, sbT8_len, List.length_cons, Nat.add_mul]
    omega
theorem alT_len (fs : List Fm) (h : ∀ f ∈ fs, (enc f).length ≤ 40) : (alT fs).length ≤ fs.length * 40 := by
  have := (foldI (alL fs) [] List.Pairwise.nil).2.2
  have h2 := alL_len fs h
  show (sbI8 (alL fs)).length ≤ _
  unfold sbI8
  simp at this
  omega
theorem elT_len (ts : List T8) : (elT ts).length ≤ ts.length := by
  unfold elT
  have := List.length_filter_le isel (ts.map rdT)
  rwa [List.length_map] at this
/-- a row of flags over all types holds all that stay alive -/
def InvA (P : List Fm) (al : List Bool) : Prop := al.length = 2 ^ P.length ∧ ∀ t, Alv P t → al.getD t false = true
/-- what a type needs is shown by types with a flag -/
def Sur (P : List Fm) (al : List Bool) (t : Nat) : Prop := ∀ i, i < P.length → ism P i = true → dmd P t i = false → ∃ u, u < 2 ^ P.length ∧ al.getD u false = true ∧ wiT P i t u = true
theorem Alv.lt {P : List Fm} {t : Nat} (h : Alv P t) : t < 2 ^ P.length := (Alv.post P t h).1
theorem InvA.sur {P : List Fm} {al : List Bool} (h : InvA P al) {t : Nat} (ht : Alv P t) : Sur P al t := fun i hi hm hd => by
  obtain ⟨u, hu, hw⟩ := (Alv.post P t ht).2 i hi hm hd
  exact ⟨u, hu.lt, h.2 u hu, hw⟩
theorem InvA.cut {P : List Fm} {al : List Bool} (h : InvA P al) {t : Nat} (hn : ¬ Sur P al t) : InvA P (al.set t false) := ⟨by rw [List.length_set]; exact h.1, fun u hu => by
  have hne : t ≠ u := fun e => hn (e ▸ h.sur hu)
  rw [List.getD_eq_getElem?_getD, List.getElem?_set_ne hne, ← List.getD_eq_getElem?_getD]
  exact h.2 u hu⟩
theorem InvA.done {P : List Fm} {al : List Bool} (h : InvA P al) (hs : ∀ t, t < 2 ^ P.length → al.getD t false = true → Sur P al t) {t : Nat} : al.getD t false = true ↔ Alv P t := by
  refine ⟨fun ht => ⟨fun t => al.getD t false = true, fun t ht => ?_, ht⟩, h.2 t⟩
  have hlt : t < 2 ^ P.length := by
    rw [← h.1]
    by_cases hlt : t < al.length
    · exact hlt
    · have ht2 : al.getD t false = true := ht
      rw [List.getD_eq_getElem?_getD, List.getElem?_eq_none (by omega)] at ht2
      cases ht2
  refine ⟨hlt, fun i hi hm hd => ?_⟩
  obtain ⟨u, -, hu, hw⟩ := hs t hlt ht i hi hm hd
  exact ⟨u, hu, hw⟩
/-- lists of types, ascending: those that stay, round by round -/
def InvL (P : List Fm) (ts : List Nat) : Prop := (∀ t ∈ ts, t < 2 ^ P.length) ∧ ∀ t, Alv P t → t ∈ ts
def SurL (P : List Fm) (ts : List Nat) (t : Nat) : Bool := (List.range P.length).all fun i => !(ism P i) || dmd P t i || ts.any fun u => wiT P i t u
theorem SurL_iff {P : List Fm} {ts : List Nat} {t : Nat} : SurL P ts t = true ↔ ∀ i, i < P.length → ism P i = true → dmd P t i = false → ∃ u ∈ ts, wiT P i t u = true := by
  unfold SurL
  rw [List.all_eq_true]
  constructor
  · intro h i hi hm hd
    have := h i (List.mem_range.2 hi)
    rw [hm, hd] at this
    simpa using this
  · intro h i hi
    have := h i (List.mem_range.1 hi)
    cases hm : ism P i
    · rfl
    · cases hd : dmd P t i
      · have := this hm hd
        simpa using this
      · rfl
theorem InvL.step {P : List Fm} {ts : List Nat} (h : InvL P ts) : InvL P (ts.filter (SurL P ts)) := ⟨fun t ht => h.1 t (List.mem_filter.1 ht).1, fun t ht => List.mem_filter.2 ⟨h.2 t ht, SurL_iff.2 fun i hi hm hd => by
  obtain ⟨u, hu, hw⟩ := (Alv.post P t ht).2 i hi hm hd
  exact ⟨u, h.2 u hu, hw⟩⟩⟩
theorem InvL.done {P : List Fm} {ts : List Nat} (h : InvL P ts) (he : (ts.filter (SurL P ts)).length = ts.length) {t : Nat} : t ∈ ts ↔ Alv P t := by
  refine ⟨fun ht => ⟨fun t => t ∈ ts, fun t ht => ⟨h.1 t ht, ?_⟩, ht⟩, h.2 t⟩
  have := (List.filter_eq_self.1 (List.filter_sublist.eq_of_length he)) t ht
  exact SurL_iff.1 this
end Go.Proofs.YtcikenffeekkeaaGreatDoor

/- Plain law of a search with a memory: the formulas that it can meet. No program in sight. -/
import Derived.Test.YtaigiopoogbbbaaGreatY23
namespace Go.Proofs.YtaigiopoogbbbaaGreat
open Go.RowKit
set_option linter.unusedVariables false
set_option linter.unusedSimpArgs false
/-- the implications that come of one -/
def icl : Fm → Fm → List Fm
  | .bin .and x y, b => .bin .imp (.bin .and x y) b :: (icl x (.bin .imp y b) ++ icl y b)
  | .bin .or x y, b => .bin .imp (.bin .or x y) b :: (icl x b ++ icl y b)
  | .bin .imp x y, b => .bin .imp (.bin .imp x y) b :: icl y b
  | .var s, b => [.bin .imp (.var s) b]
  | .fls, b => [.bin .imp .fls b]
  | .un k x, b => [.bin .imp (.un k x) b]
/-- the formulas that come of one -/
def cls : Fm → List Fm
  | .bin .imp a b => icl a b ++ (cls a ++ cls b)
  | .bin .and a b => .bin .and a b :: (cls a ++ cls b)
  | .bin .or a b => .bin .or a b :: (cls a ++ cls b)
  | .var s => [.var s]
  | .fls => [.fls]
  | .un k x => [.un k x]
theorem icl_head (a b : Fm) : .bin .imp a b ∈ icl a b := by
  cases a with
  | bin k x y => cases k <;> simp [icl]
  | var s => simp [icl]
  | fls => simp [icl]
  | un k x => simp [icl]
theorem cls_self (f : Fm) : f ∈ cls f := by
  cases f with
  | bin k x y =>
    cases k with
    | imp => simp only [cls, List.mem_append]; exact .inl (icl_head x y)
    | and => simp [cls]
    | or => simp [cls]
  | var s => simp [cls]
  | fls => simp [cls]
  | un k x => simp [cls]
theorem cls_l {k : BK} {a b g : Fm} (h : g ∈ cls a) : g ∈ cls (.bin k a b) := by
  cases k <;> simp [cls, h]
theorem cls_r {k : BK} {a b g : Fm} (h : g ∈ cls b) : g ∈ cls (.bin k a b) := by
  cases k <;> simp [cls, h]
theorem icl_rules : ∀ (a b p q : Fm), .bin .imp p q ∈ icl a b →
    (∀ x y, p = .bin .and x y → .bin .imp x (.bin .imp y q) ∈ icl a b) ∧ (∀ x y, p = .bin .or x y → .bin .imp x q ∈ icl a b ∧ .bin .imp y q ∈ icl a b) ∧ (∀ x y, p = .bin .imp x y → .bin .imp y q ∈ icl a b)
  | .bin .and x y, b, p, q, h => by
    simp only [icl, List.mem_cons, List.mem_append] at h ⊢
    rcases h with h | h | h
    · injection h with _ h1 h2
      subst h1 h2
      refine ⟨fun x' y' e => ?_, fun x' y' e => ?_, fun x' y' e => ?_⟩
      · injection e with _ e1 e2; subst e1 e2; exact .inr (.inl (icl_head _ _))
      · injection e with e0; cases e0
      · injection e with e0; cases e0
    · obtain ⟨h1, h2, h3⟩ := icl_rules x _ p q h
      exact ⟨fun x' y' e => .inr (.inl (h1 x' y' e)), fun x' y' e => ⟨.inr (.inl (h2 x' y' e).1), .inr (.inl (h2 x' y' e).2)⟩, fun x' y' e => .inr (.inl (h3 x' y' e))⟩
    · obtain ⟨h1, h2, h3⟩ := icl_rules y _ p q h
      exact ⟨fun x' y' e => .inr (.inr (h1 x' y' e)), fun x' y' e => ⟨.inr (.inr (h2 x' y' e).1), .inr (.inr (h2 x' y' e).2)⟩, fun x' y' e => .inr (.inr (h3 x' y' e))⟩
  | .bin .or x y, b, p, q, h => by
    simp only [icl, List.mem_cons, List.mem_append] at h ⊢
    rcases h with h | h | h
    · injection h with _ h1 h2
      subst h1 h2
      refine ⟨fun x' y' e => ?_, fun x' y' e => ?_, fun x' y' e => ?_⟩
      · injection e with e0; cases e0
      · injection e with _ e1 e2; subst e1 e2; exact ⟨.inr (.inl (icl_head _ _)), .inr (.inr (icl_head _ _))⟩
      · injection e with e0; cases e0
    · obtain ⟨h1, h2, h3⟩ := icl_rules x _ p q h
      exact ⟨fun x' y' e => .inr (.inl (h1 x' y' e)), fun x' y' e => ⟨.inr (.inl (h2 x' y' e).1), .inr (.inl (h2 x' y' e).2)⟩, fun x' y' e => .inr (.inl (h3 x' y' e))⟩
    · obtain ⟨h1, h2, h3⟩ := icl_rules y _ p q h
      exact ⟨fun x' y' e => .inr (.inr (h1 x' y' e)), fun x' y' e => ⟨.inr (.inr (h2 x' y' e).1), .inr (.inr (h2 x' y' e).2)⟩, fun x' y' e => .inr (.inr (h3 x' y' e))⟩
  | .bin .imp x y, b, p, q, h => by
    simp only [icl, List.mem_cons] at h ⊢
    rcases h with h | h
    · injection h with _ h1 h2
      subst h1 h2
      refine ⟨fun x' y' e => ?_, fun x' y' e => ?_, fun x' y' e => ?_⟩
      · injection e with e0; cases e0
      · injection e with e0; cases e0
      · injection e with _ e1 e2; subst e1 e2; exact .inr (icl_head _ _)
    · obtain ⟨h1, h2, h3⟩ := icl_rules y _ p q h
      exact ⟨fun x' y' e => .inr (h1 x' y' e), fun x' y' e => ⟨.inr (h2 x' y' e).1, .inr (h2 x' y' e).2⟩, fun x' y' e => .inr (h3 x' y' e)⟩
  | .var s, b, p, q, h => by
    simp only [icl, List.mem_singleton] at h
    injection h with _ h1 h2
    subst h1
    exact ⟨fun _ _ e => (by cases e), fun _ _ e => (by cases e), fun _ _ e => (by cases e)⟩
  | .fls, b, p, q, h => by
    simp only [icl, List.mem_singleton] at h
    injection h with _ h1 h2
    subst h1
    exact ⟨fun _ _ e => (by cases e), fun _ _ e => (by cases e), fun _ _ e => (by cases e)⟩
  | .un k x, b, p, q, h => by
    simp only [icl, List.mem_singleton] at h
    injection h with _ h1 h2
    subst h1
    exact ⟨fun _ _ e => (by cases e), fun _ _ e => (by cases e), fun _ _ e => (by cases e)⟩
theorem icl_form : ∀ (a b h : Fm), h ∈ icl a b → ∃ p q, h = .bin .imp p q ∧ p ∈ cls a ∧ (q = b ∨ q ∈ icl a b)
  | .bin .and x y, b, h, hh => by
    simp only [icl, List.mem_cons, List.mem_append] at hh ⊢
    rcases hh with rfl | hh | hh
    · exact ⟨_, _, rfl, cls_self _, .inl rfl⟩
    · obtain ⟨p, q, rfl, h1, h2⟩ := icl_form x _ h hh
      exact ⟨p, q, rfl, cls_l h1, h2.elim (fun e => .inr (.inr (.inr (e ▸ icl_head y b)))) (fun e => .inr (.inr (.inl e)))⟩
    · obtain ⟨p, q, rfl, h1, h2⟩ := icl_form y _ h hh
      exact ⟨p, q, rfl, cls_r h1, h2.elim .inl (fun e => .inr (.inr (.inr e)))⟩
  | .bin .or x y, b, h, hh => by
    simp only [icl, List.mem_cons, List.mem_append] at hh ⊢
    rcases hh with rfl | hh | hh
    · exact ⟨_, _, rfl, cls_self _, .inl rfl⟩
    · obtain ⟨p, q, rfl, h1, h2⟩ := icl_form x _ h hh
      exact ⟨p, q, rfl, cls_l h1, h2.elim .inl (fun e => .inr (.inr (.inl e)))⟩
    · obtain ⟨p, q, rfl, h1, h2⟩ := icl_form y _ h hh
      exact ⟨p, q, rfl, cls_r h1, h2.elim .inl (fun e => .inr (.inr (.inr e)))⟩
  | .bin .imp x y, b, h, hh => by
    simp only [icl, List.mem_cons] at hh ⊢
    rcases hh with rfl | hh
    · exact ⟨_, _, rfl, cls_self _, .inl rfl⟩
    · obtain ⟨p, q, rfl, h1, h2⟩ := icl_form y _ h hh
      exact ⟨p, q, rfl, cls_r h1, h2.elim .inl (fun e => .inr (.inr e))⟩
  | .var s, b, h, hh => by
    simp only [icl, List.mem_singleton] at hh
    exact ⟨_, _, hh, cls_self _, .inl rfl⟩
  | .fls, b, h, hh => by
    simp only [icl, List.mem_singleton] at hh
    exact ⟨_, _, hh, cls_self _, .inl rfl⟩
  | .un k x, b, h, hh => by
    simp only [icl, List.mem_singleton] at hh
    exact ⟨_, _, hh, cls_self _, .inl rfl⟩
/-- a list that holds what the rules make of its members -/
structure Clsd (C : List Fm) : Prop where
  bin : ∀ k a b, .bin k a b ∈ C → a ∈ C ∧ b ∈ C
  ai : ∀ x y b, .bin .imp (.bin .and x y) b ∈ C → .bin .imp x (.bin .imp y b) ∈ C
  oi : ∀ x y b, .bin .imp (.bin .or x y) b ∈ C → .bin .imp x b ∈ C ∧ .bin .imp y b ∈ C
  ii : ∀ x y b, .bin .imp (.bin .imp x y) b ∈ C → .bin .imp y b ∈ C
theorem Clsd.app {C D : List Fm} (h : Clsd C) (k : Clsd D) : Clsd (C ++ D) := by
  constructor
  · intro q a b hm
    rcases List.mem_append.1 hm with hm | hm
    · exact ⟨List.mem_append_left _ (h.bin q a b hm).1, List.mem_append_left _ (h.bin q a b hm).2⟩
    · exact ⟨List.mem_append_right _ (k.bin q a b hm).1, List.mem_append_right _ (k.bin q a b hm).2⟩
  · intro x y b hm
    rcases List.mem_append.1 hm with hm | hm
    · exact List.mem_append_left _ (h.ai x y b hm)
    · exact List.mem_append_right _ (k.ai x y b hm)
  · intro x y b hm
    rcases List.mem_append.1 hm with hm | hm
    · exact ⟨List.mem_append_left _ (h.oi x y b hm).1, List.mem_append_left _ (h.oi x y b hm).2⟩
    · exact ⟨List.mem_append_right _ (k.oi x y b hm).1, List.mem_append_right _ (k.oi x y b hm).2⟩
  · intro x y b hm
    rcases List.mem_append.1 hm with hm | hm
    · exact List.mem_append_left _ (h.ii x y b hm)
    · exact List.mem_append_right _ (k.ii x y b hm)
theorem Clsd.cons {C : List Fm} {k : BK} {a b : Fm} (h : Clsd C) (hk : k ≠ .imp) (ha : a ∈ C) (hb : b ∈ C) : Clsd (.bin k a b :: C) := by
  have no : ∀ p q, Fm.bin .imp p q ∈ (Fm.bin k a b :: C) → Fm.bin .imp p q ∈ C := fun p q hm => by
    rcases List.mem_cons.1 hm with e | hm
    · injection e with e0; exact absurd e0.symm hk
    · exact hm
  constructor
  · intro q x y hm
    rcases List.mem_cons.1 hm with e | hm
    · injection e with _ e1 e2; subst e1 e2; exact ⟨List.mem_cons_of_mem _ ha, List.mem_cons_of_mem _ hb⟩
    · exact ⟨List.mem_cons_of_mem _ (h.bin q x y hm).1, List.mem_cons_of_mem _ (h.bin q x y hm).2⟩
  · exact fun x y b hm => List.mem_cons_of_mem _ (h.ai x y b (no _ _ hm))
  · exact fun x y b hm => ⟨List.mem_cons_of_mem _ (h.oi x y b (no _ _ hm)).1, List.mem_cons_of_mem _ (h.oi x y b (no _ _ hm)).2⟩
  · exact fun x y b hm => List.mem_cons_of_mem _ (h.ii x y b (no _ _ hm))
theorem clsd_icl {a b : Fm} {C : List Fm} (h : Clsd C) (ha : ∀ g ∈ cls a, g ∈ C) (hb : b ∈ C) : Clsd (icl a b ++ C) := by
  constructor
  · intro q x y hm
    rcases List.mem_append.1 hm with hm | hm
    · obtain ⟨p, r, e, h1, h2⟩ := icl_form a b _ hm
      injection e with _ e1 e2
      subst e1 e2
      exact ⟨List.mem_append_right _ (ha _ h1), h2.elim (fun e => List.mem_append_right _ (e ▸ hb)) (fun e => List.mem_append_left _ e)⟩
    · exact ⟨List.mem_append_right _ (h.bin q x y hm).1, List.mem_append_right _ (h.bin q x y hm).2⟩
  · intro x y q hm
    rcases List.mem_append.1 hm with hm | hm
    · exact List.mem_append_left _ ((icl_rules a b _ _ hm).1 x y rfl)
    · exact List.mem_append_right _ (h.ai x y q hm)
  · intro x y q hm
    rcases List.mem_append.1 hm with hm | hm
    · exact ⟨List.mem_append_left _ ((icl_rules a b _ _ hm).2.1 x y rfl).1, List.mem_append_left _ ((icl_rules a b _ _ hm).2.1 x y rfl).2⟩
    · exact ⟨List.mem_append_right _ (h.oi x y q hm).1, List.mem_append_right _ (h.oi x y q hm).2⟩
  · intro x y q hm
    rcases List.mem_append.1 hm with hm | hm
    · exact List.mem_append_left _ ((icl_rules a b _ _ hm).2.2 x y rfl)
    · exact List.mem_append_right _ (h.ii x y q hm)
theorem clsd_one {f : Fm} (h : ∀ k a b, f ≠ .bin k a b) : Clsd [f] := by
  constructor
  · intro k a b hm; exact absurd (List.mem_singleton.1 hm).symm (h k a b)
  · intro x y b hm; exact absurd (List.mem_singleton.1 hm).symm (h _ _ _)
  · intro x y b hm; exact absurd (List.mem_singleton.1 hm).symm (h _ _ _)
  · intro x y b hm; exact absurd (List.mem_singleton.1 hm).symm (h _ _ _)
theorem clsd_cls : ∀ f : Fm, Clsd (cls f)
  | .bin .imp a b => clsd_icl ((clsd_cls a).app (clsd_cls b)) (fun g hg => List.mem_append_left _ hg) (List.mem_append_right _ (cls_self b))
  | .bin .and a b => ((clsd_cls a).app (clsd_cls b)).cons (fun e => by cases e) (List.mem_append_left _ (cls_self a)) (List.mem_append_right _ (cls_self b))
  | .bin .or a b => ((clsd_cls a).app (clsd_cls b)).cons (fun e => by cases e) (List.mem_append_left _ (cls_self a)) (List.mem_append_right _ (cls_self b))
  | .var s => clsd_one fun _ _ _ e => by cases e
  | .fls => clsd_one fun _ _ _ e => by cases e
  | .un k x => clsd_one fun _ _ _ e => by cases e
/-- how many -/
theorem cls_count : ∀ (f b : Fm), (icl f b).length + (cls f).length ≤ 2 * (enc f).length
  | .bin .imp x y, b => by
    have h1 := cls_count x y
    have h2 := cls_count y b
    simp only [icl, cls, enc, List.length_cons, List.length_append]; omega
  | .bin .and x y, b => by
    have h1 := cls_count x (.bin .imp y b)
    have h2 := cls_count y b
    simp only [icl, cls, enc, List.length_cons, List.length_append]; omega
  | .bin .or x y, b => by
    have h1 := cls_count x b
    have h2 := cls_count y b
    simp only [icl, cls, enc, List.length_cons, List.length_append]; omega
  | .var s, b => by simp [icl, cls, enc]
  | .fls, b => by simp [icl, cls, enc]
  | .un k x, b => by simp only [icl, cls, enc, List.length_cons, List.length_nil]; omega
theorem icl_gd : ∀ (a b h : Fm), a.ok = true → a.plain = true → b.ok = true → b.plain = true → h ∈ icl a b → h.ok = true ∧ h.plain = true ∧ (enc h).length ≤ 1 + (enc a).length + (enc b).length
  | .bin k x y, b, h, h1, h2, h3, h4, hm => by
    have e1 := h1; have e2 := h2
    simp only [Fm.ok, Bool.and_eq_true] at e1
    simp only [Fm.plain, Bool.and_eq_true] at e2
    have hd : (Fm.bin .imp (.bin k x y) b).ok = true ∧ (Fm.bin .imp (.bin k x y) b).plain = true ∧ (enc (Fm.bin .imp (.bin k x y) b)).length ≤ 1 + (enc (.bin k x y)).length + (enc b).length := by
      refine ⟨by simp only [Fm.ok, Bool.and_eq_true] at h1 ⊢; exact ⟨h1, h3⟩, by simp only [Fm.plain, Bool.and_eq_true] at h2 ⊢; exact ⟨h2, h4⟩, by simp only [enc, List.length_cons, List.length_append]; omega⟩
    have hle : (enc (Fm.bin k x y)).length = 1 + (enc x).length + (enc y).length := by simp only [enc, List.length_cons, List.length_append]; omega
    have hly : (enc (Fm.bin .imp y b)).length = 1 + (enc y).length + (enc b).length := by simp only [enc, List.length_cons, List.length_append]; omega
    cases k with
    | and =>
      simp only [icl, List.mem_cons, List.mem_append] at hm
      rcases hm with rfl | hm | hm
      · exact hd
      · obtain ⟨q1, q2, q3⟩ := icl_gd x _ h e1.1 e2.1 (by simp only [Fm.ok, Bool.and_eq_true]; exact ⟨e1.2, h3⟩) (by simp only [Fm.plain, Bool.and_eq_true]; exact ⟨e2.2, h4⟩) hm
        exact ⟨q1, q2, by omega⟩
      · obtain ⟨q1, q2, q3⟩ := icl_gd y _ h e1.2 e2.2 h3 h4 hm
        exact ⟨q1, q2, by omega⟩
    | or =>
      simp only [icl, List.mem_cons, List.mem_append] at hm
      rcases hm with rfl | hm | hm
      · exact hd
      · obtain ⟨q1, q2, q3⟩ := icl_gd x _ h e1.1 e2.1 h3 h4 hm
        exact ⟨q1, q2, by omega⟩
      · obtain ⟨q1, q2, q3⟩ := icl_gd y _ h e1.2 e2.2 h3 h4 hm
        exact ⟨q1, q2, by omega⟩
    | imp =>
      simp only [icl, List.mem_cons] at hm
      rcases hm with rfl | hm
      · exact hd
      · obtain ⟨q1, q2, q3⟩ := icl_gd y _ h e1.2 e2.2 h3 h4 hm
        exact ⟨q1, q2, by omega⟩
  | .var s, b, h, h1, h2, h3, h4, hm => by
    simp only [icl, List.mem_singleton] at hm
    subst hm
    exact ⟨by simp only [Fm.ok, Bool.and_eq_true] at h1 ⊢; exact ⟨h1, h3⟩, by simp only [Fm.plain, Bool.and_eq_true]; exact ⟨trivial, h4⟩, by simp only [enc, List.length_cons, List.length_append, List.length_nil]; omega⟩
  | .fls, b, h, h1, h2, h3, h4, hm => by
    simp only [icl, List.mem_singleton] at hm
    subst hm
    exact ⟨by simp only [Fm.ok, Bool.and_eq_true]; exact ⟨trivial, h3⟩, by simp only [Fm.plain, Bool.and_eq_true]; exact ⟨trivial, h4⟩, by simp only [enc, List.length_cons, List.length_append, List.length_nil]; omega⟩
  | .un k x, b, h, h1, h2, h3, h4, hm => by simp [Fm.plain] at h2
theorem cls_gd : ∀ (f h : Fm), f.ok = true → f.plain = true → h ∈ cls f → h.ok = true ∧ h.plain = true ∧ (enc h).length ≤ (enc f).length
  | .bin k a b, h, h1, h2, hm => by
    have e1 := h1; have e2 := h2
    simp only [Fm.ok, Bool.and_eq_true] at e1
    simp only [Fm.plain, Bool.and_eq_true] at e2
    have hle : (enc (Fm.bin k a b)).length = 1 + (enc a).length + (enc b).length := by simp only [enc, List.length_cons, List.length_append]; omega
    have ha : h ∈ cls a → h.ok = true ∧ h.plain = true ∧ (enc h).length ≤ (enc (Fm.bin k a b)).length := fun hm => by
      obtain ⟨q1, q2, q3⟩ := cls_gd a h e1.1 e2.1 hm; exact ⟨q1, q2, by omega⟩
    have hb : h ∈ cls b → h.ok = true ∧ h.plain = true ∧ (enc h).length ≤ (enc (Fm.bin k a b)).length := fun hm => by
      obtain ⟨q1, q2, q3⟩ := cls_gd b h e1.2 e2.2 hm; exact ⟨q1, q2, by omega⟩
    cases k with
    | imp =>
      simp only [cls, List.mem_append] at hm
      rcases hm with hm | hm | hm
      · obtain ⟨q1, q2, q3⟩ := icl_gd a b h e1.1 e2.1 e1.2 e2.2 hm; exact ⟨q1, q2, by omega⟩
      · exact ha hm
      · exact hb hm
    | and =>
      simp only [cls, List.mem_cons, List.mem_append] at hm
      rcases hm with rfl | hm | hm
      · exact ⟨h1, h2, Nat.le_refl _⟩
      · exact ha hm
      · exact hb hm
    | or =>
      simp only [cls, List.mem_cons, List.mem_append] at hm
      rcases hm with rfl | hm | hm
      · exact ⟨h1, h2, Nat.le_refl _⟩
      · exact ha hm
      · exact hb hm
  | .var s, h, h1, h2, hm => by simp only [cls, List.mem_singleton] at hm; subst hm; exact ⟨h1, h2, Nat.le_refl _⟩
  | .fls, h, h1, h2, hm => by simp only [cls, List.mem_singleton] at hm; subst hm; exact ⟨h1, h2, Nat.le_refl _⟩
  | .un k x, h, h1, h2, hm => by simp [Fm.plain] at h2
end Go.Proofs.YtaigiopoogbbbaaGreat

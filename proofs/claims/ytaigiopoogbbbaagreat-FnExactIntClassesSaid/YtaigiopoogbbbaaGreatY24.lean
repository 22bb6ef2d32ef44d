/- Plain law of sides: lists of formulas in the order of their texts. No program in sight. -/
import Derived.Test.YtaigiopoogbbbaaGreatY11
import Derived.Test.YtaigiopoogbbbaaGreatY23
namespace Go.Proofs.YtaigiopoogbbbaaGreat
open Go.RowKit
set_option linter.unusedVariables false
set_option linter.unusedSimpArgs false
theorem txt_injI {a b : Fm} (ha : a.ok = true) (hb : b.ok = true) (h : txt a = txt b) : a = b := by
  have h1 := txt_read a ha
  have h2 := txt_read b hb
  rw [h] at h1
  exact (h1.one h2).1
theorem t8_injI {a b : ByteArray} (h : t8 a = t8 b) : a = b := by
  have e : ∀ c : ByteArray, (⟨⟨t8 c⟩⟩ : ByteArray) = c := fun c => rfl
  rw [← e a, ← e b, h]
/-- the text of a formula, its bytes -/
def t1 (f : Fm) : T8 := t8 (txt f)
theorem t1_inj {a b : Fm} (ha : a.ok = true) (hb : b.ok = true) (h : t1 a = t1 b) : a = b := txt_injI ha hb (t8_injI h)
def tx (L : List Fm) : List T8 := L.map t1
theorem tx_inj : ∀ {L M : List Fm}, (∀ f ∈ L, f.ok = true) → (∀ f ∈ M, f.ok = true) → tx L = tx M → L = M
  | [], [], _, _, _ => rfl
  | [], b :: M, _, _, h => by cases h
  | a :: L, [], _, _, h => by cases h
  | a :: L, b :: M, hL, hM, h => by
    injection h with h1 h2
    rw [t1_inj (hL a (List.mem_cons_self ..)) (hM b (List.mem_cons_self ..)) h1, tx_inj (fun f hf => hL f (List.mem_cons_of_mem _ hf)) (fun f hf => hM f (List.mem_cons_of_mem _ hf)) h2]
/-- a formula put to a side -/
def insF (f : Fm) : List Fm → List Fm
  | [] => [f]
  | g :: L => if t1 g < t1 f then g :: insF f L else if t1 g = t1 f then g :: L else f :: g :: L
theorem tx_insF (f : Fm) : ∀ L : List Fm, tx (insF f L) = ins8 (t1 f) (tx L)
  | [] => rfl
  | g :: L => by
    show tx (if t1 g < t1 f then g :: insF f L else if t1 g = t1 f then g :: L else f :: g :: L) = if t1 g < t1 f then t1 g :: ins8 (t1 f) (tx L) else if t1 g = t1 f then t1 g :: tx L else t1 f :: t1 g :: tx L
    have ih := tx_insF f L
    split
    · rw [← ih]; rfl
    · split <;> rfl
theorem insF_sub {f x : Fm} : ∀ {L : List Fm}, x ∈ insF f L → x = f ∨ x ∈ L
  | [], h => .inl (by simpa [insF] using h)
  | g :: L, h => by
    unfold insF at h
    split at h
    · rcases List.mem_cons.1 h with rfl | h
      · exact .inr (List.mem_cons_self ..)
      · exact (insF_sub h).imp id (List.mem_cons_of_mem _)
    · split at h
      · exact .inr h
      · rcases List.mem_cons.1 h with rfl | h
        · exact .inl rfl
        · exact .inr h
theorem insF_mem {f x : Fm} {L : List Fm} (hf : f.ok = true) (hL : ∀ g ∈ L, g.ok = true) : x ∈ insF f L ↔ x = f ∨ x ∈ L := by
  refine ⟨insF_sub, ?_⟩
  induction L with
  | nil => rintro (rfl | h) <;> simp_all [insF]
  | cons g L ih =>
    have ih := ih fun k hk => hL k (List.mem_cons_of_mem _ hk)
    intro h
    unfold insF
    split
    · rcases h with h | h
      · exact List.mem_cons_of_mem _ (ih (.inl h))
      · rcases List.mem_cons.1 h with rfl | h
        · exact List.mem_cons_self ..
        · exact List.mem_cons_of_mem _ (ih (.inr h))
    · split
      · rename_i _ he
        rcases h with rfl | h
        · rw [← t1_inj (hL g (List.mem_cons_self ..)) hf he]; exact List.mem_cons_self ..
        · exact h
      · rcases h with rfl | h
        · exact List.mem_cons_self ..
        · exact List.mem_cons_of_mem _ h
theorem insF_sw (f : Fm) : ∀ L : List Fm, swL (insF f L) ≤ sw f + swL L
  | [] => by simp [insF, swL]
  | g :: L => by
    have ih := insF_sw f L
    unfold insF
    split
    · simp only [swL]; omega
    · split
      · simp only [swL]; omega
      · simp only [swL]; omega
/-- formulas put to a side -/
def pu (L M : List Fm) : List Fm := (L ++ M).foldl (fun acc f => insF f acc) []
theorem fold_tx : ∀ (J A : List Fm), tx (J.foldl (fun acc f => insF f acc) A) = (tx J).foldl (fun l x => ins8 x l) (tx A)
  | [], A => rfl
  | f :: J, A => by
    show tx (J.foldl (fun acc f => insF f acc) (insF f A)) = (tx J).foldl (fun l x => ins8 x l) (ins8 (t1 f) (tx A))
    rw [fold_tx J, tx_insF]
theorem tx_pu (L M : List Fm) : sbI8 (tx L ++ tx M) = tx (pu L M) := by
  unfold pu sbI8
  rw [fold_tx]
  unfold tx
  rw [List.map_append]
  rfl
theorem fold_mem : ∀ (J A : List Fm), (∀ f ∈ J, f.ok = true) → (∀ f ∈ A, f.ok = true) → ∀ x, x ∈ J.foldl (fun acc f => insF f acc) A ↔ x ∈ J ∨ x ∈ A
  | [], A, _, _, x => by simp
  | f :: J, A, hJ, hA, x => by
    have hf := hJ f (List.mem_cons_self ..)
    rw [List.foldl_cons, fold_mem J _ (fun g hg => hJ g (List.mem_cons_of_mem _ hg)) (fun g hg => (insF_sub hg).elim (fun e => e ▸ hf) (hA g)), insF_mem hf hA, List.mem_cons]
    constructor
    · rintro (h | h | h)
      · exact .inl (.inr h)
      · exact .inl (.inl h)
      · exact .inr h
    · rintro ((h | h) | h)
      · exact .inr (.inl h)
      · exact .inl h
      · exact .inr (.inr h)
theorem pu_mem {L M : List Fm} (hL : ∀ f ∈ L, f.ok = true) (hM : ∀ f ∈ M, f.ok = true) (x : Fm) : x ∈ pu L M ↔ x ∈ L ∨ x ∈ M := by
  unfold pu
  rw [fold_mem _ _ (fun f hf => (List.mem_append.1 hf).elim (hL f) (hM f)) (fun f hf => by cases hf), List.mem_append]
  simp
theorem fold_sw : ∀ (J A : List Fm), swL (J.foldl (fun acc f => insF f acc) A) ≤ swL J + swL A
  | [], A => by simp [swL]
  | f :: J, A => by
    have h1 := fold_sw J (insF f A)
    have h2 := insF_sw f A
    show swL (J.foldl (fun acc f => insF f acc) (insF f A)) ≤ sw f + swL J + swL A
    omega
theorem pu_sw (L M : List Fm) : swL (pu L M) ≤ swL L + swL M := by
  have := fold_sw (L ++ M) []
  rw [swL_app] at this
  exact this
def Srt (L : List Fm) : Prop := (tx L).Pairwise (· < ·)
theorem pu_srt (L M : List Fm) : Srt (pu L M) := by
  unfold Srt
  rw [← tx_pu]
  exact (foldI (tx L ++ tx M) [] List.Pairwise.nil).1
/-- a side without a formula -/
def dr (L : List Fm) (f : Fm) : List Fm := L.filter fun g => !decide (t1 g = t1 f)
theorem tx_dr (L : List Fm) (f : Fm) : ((tx L).filter fun x => !decide (x = t1 f)) = tx (dr L f) := by
  unfold tx dr
  rw [List.filter_map]
  rfl
theorem dr_mem {L : List Fm} {f : Fm} (hL : ∀ g ∈ L, g.ok = true) (hf : f.ok = true) (x : Fm) : x ∈ dr L f ↔ x ∈ L ∧ x ≠ f := by
  unfold dr
  rw [List.mem_filter, Bool.not_eq_true', decide_eq_false_iff_not]
  constructor
  · rintro ⟨h1, h2⟩; exact ⟨h1, fun e => h2 (by rw [e])⟩
  · rintro ⟨h1, h2⟩; exact ⟨h1, fun e => h2 (t1_inj (hL x h1) hf e)⟩
theorem dr_mem1 {L : List Fm} {f : Fm} (hL : ∀ g ∈ L, g.ok = true) (h : f ∈ L) : Mem1 L f (dr L f) := fun x => by
  rw [dr_mem hL (hL f h)]
  constructor
  · intro hx
    by_cases e : x = f
    · exact .inl e
    · exact .inr ⟨hx, e⟩
  · rintro (rfl | hx)
    · exact h
    · exact hx.1
theorem filter_sw (p : Fm → Bool) : ∀ L : List Fm, swL (L.filter p) ≤ swL L
  | [] => Nat.le_refl _
  | g :: L => by
    have ih := filter_sw p L
    rw [List.filter_cons]
    split
    · simp only [swL]; omega
    · simp only [swL]; omega
theorem dr_sw {f : Fm} : ∀ {L : List Fm}, f ∈ L → swL (dr L f) + sw f ≤ swL L
  | g :: L, h => by
    unfold dr
    rw [List.filter_cons]
    have ih := filter_sw (fun g => !decide (t1 g = t1 f)) L
    by_cases e : t1 g = t1 f
    · rw [if_neg (by rw [decide_eq_true e]; decide)]
      rcases List.mem_cons.1 h with rfl | h
      · simp only [swL]; omega
      · have := dr_sw h
        unfold dr at this
        simp only [swL]; omega
    · rw [if_pos (by rw [decide_eq_false e]; rfl)]
      rcases List.mem_cons.1 h with rfl | h
      · exact absurd rfl e
      · have := dr_sw h
        unfold dr at this
        simp only [swL]; omega
theorem dr_srt {L : List Fm} (f : Fm) (h : Srt L) : Srt (dr L f) := by
  unfold Srt
  rw [← tx_dr]
  exact h.filter _
end Go.Proofs.YtaigiopoogbbbaaGreat

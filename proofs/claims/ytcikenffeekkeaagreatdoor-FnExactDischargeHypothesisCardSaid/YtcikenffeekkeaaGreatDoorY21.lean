/- Joined of several texts: M02R, M02T, M02W. -/
import Derived.Test.YtcikenffeekkeaaGreatDoorY02
import Derived.Test.YtcikenffeekkeaaGreatDoorY10
import Derived.Lib.SlicesCompact
namespace Go.Proofs.YtcikenffeekkeaaGreatDoor
open Go.RowKit
set_option linter.unusedVariables false
set_option linter.unusedSimpArgs false
/- Plain law: what the readers of formulas' texts read; a text is read in one way alone. No program in sight. -/
/-- the byte that a reader has next -/
def nx (s : ByteArray) (i : Nat) (bad : Bool) : Option Nat := if bad then none else (s.data[i]?).map UInt8.toNat
/-- a byte that has to be the next one -/
def ned (s : ByteArray) (i : Nat) (bad : Bool) (b : Nat) : Nat × Bool := if nx s i bad = some b then (i + 1, bad) else (i, true)
inductive Lv | imp | or | and | pre | orT | andT
/-- from position i a reader of this level reads the formula a and comes to j; behind a the tails stand with what was read -/
inductive Rdf (s : ByteArray) : Lv → Fm → Nat → Bool → Fm → Nat → Bool → Prop
  | var {x i bad v} : nx s i bad = some (112 + v) → v < 6 → Rdf s .pre x i bad (.var v) (i + 1) bad
  | fls {x i bad} : nx s i bad = some 70 → Rdf s .pre x i bad .fls (i + 1) bad
  | tru {x i bad} : nx s i bad = some 84 → Rdf s .pre x i bad (.bin .imp .fls .fls) (i + 1) bad
  | not {x i bad a j c} : nx s i bad = some 126 → Rdf s .pre .fls (i + 1) bad a j c → Rdf s .pre x i bad (.bin .imp a .fls) j c
  | box {x i bad a j c} : nx s i bad = some 91 → Rdf s .pre .fls (ned s (i + 1) bad 93).1 (ned s (i + 1) bad 93).2 a j c → Rdf s .pre x i bad (.un .box a) j c
  | dia {x i bad a j c} : nx s i bad = some 60 → Rdf s .pre .fls (ned s (i + 1) bad 62).1 (ned s (i + 1) bad 62).2 a j c → Rdf s .pre x i bad (.un .dia a) j c
  | par {x i bad a j c} : nx s i bad = some 40 → Rdf s .imp .fls (i + 1) bad a j c → Rdf s .pre x i bad a (ned s j c 41).1 (ned s j c 41).2
  | non {x i bad} : (∀ v, v < 6 → nx s i bad ≠ some (112 + v)) → nx s i bad ≠ some 70 → nx s i bad ≠ some 84 → nx s i bad ≠ some 126 → nx s i bad ≠ some 91 → nx s i bad ≠ some 60 → nx s i bad ≠ some 40 → Rdf s .pre x i bad .fls i true
  | and {x i bad a j c b k d} : Rdf s .pre .fls i bad a j c → Rdf s .andT a j c b k d → Rdf s .and x i bad b k d
  | andS {a i bad} : nx s i bad ≠ some 38 → Rdf s .andT a i bad a i bad
  | andC {a i bad b j c d k e} : nx s i bad = some 38 → Rdf s .pre .fls (i + 1) bad b j c → Rdf s .andT (.bin .and a b) j c d k e → Rdf s .andT a i bad d k e
  | or {x i bad a j c b k d} : Rdf s .and .fls i bad a j c → Rdf s .orT a j c b k d → Rdf s .or x i bad b k d
  | orS {a i bad} : nx s i bad ≠ some 124 → Rdf s .orT a i bad a i bad
  | orC {a i bad b j c d k e} : nx s i bad = some 124 → Rdf s .and .fls (i + 1) bad b j c → Rdf s .orT (.bin .or a b) j c d k e → Rdf s .orT a i bad d k e
  | impC {x i bad a j c b k d} : Rdf s .or .fls i bad a j c → nx s j c = some 62 → Rdf s .imp .fls (j + 1) c b k d → Rdf s .imp x i bad (.bin .imp a b) k d
  | impS {x i bad a j c} : Rdf s .or .fls i bad a j c → nx s j c ≠ some 62 → Rdf s .imp x i bad a j c
theorem Rdf.one {s : ByteArray} {l x i bad a j c} (h : Rdf s l x i bad a j c) : ∀ {a' j' c'}, Rdf s l x i bad a' j' c' → a = a' ∧ j = j' ∧ c = c' := by
  induction h with
  | var h hv =>
    intro a' j' c' h'
    cases h' with
    | var k kv => rw [h] at k; injection k with k; obtain rfl : _ = _ := Nat.add_left_cancel k; exact ⟨rfl, rfl, rfl⟩
    | fls k | tru k | not k _ | box k _ | dia k _ | par k _ => rw [h] at k; injection k with k; omega
    | non k0 k1 k2 k3 k4 k5 k6 => exact absurd h (k0 _ hv)
  | fls h =>
    intro a' j' c' h'
    cases h' with
    | var k kv => rw [h] at k; injection k with k; omega
    | fls k => exact ⟨rfl, rfl, rfl⟩
    | tru k | not k _ | box k _ | dia k _ | par k _ => rw [h] at k; injection k with k; omega
    | non k0 k1 k2 k3 k4 k5 k6 => exact absurd h k1
  | tru h =>
    intro a' j' c' h'
    cases h' with
    | var k kv => rw [h] at k; injection k with k; omega
    | tru k => exact ⟨rfl, rfl, rfl⟩
    | fls k | not k _ | box k _ | dia k _ | par k _ => rw [h] at k; injection k with k; omega
    | non k0 k1 k2 k3 k4 k5 k6 => exact absurd h k2
  | not h _ ih =>
    intro a' j' c' h'
    cases h' with
    | var k kv => rw [h] at k; injection k with k; omega
    | not k hr => obtain ⟨rfl, rfl, rfl⟩ := ih hr; exact ⟨rfl, rfl, rfl⟩
    | fls k | tru k | box k _ | dia k _ | par k _ => rw [h] at k; injection k with k; omega
    | non k0 k1 k2 k3 k4 k5 k6 => exact absurd h k3
  | box h _ ih =>
    intro a' j' c' h'
    cases h' with
    | var k kv => rw [h] at k; injection k with k; omega
    | box k hr => obtain ⟨rfl, rfl, rfl⟩ := ih hr; exact ⟨rfl, rfl, rfl⟩
    | fls k | tru k | not k _ | dia k _ | par k _ => rw [h] at k; injection k with k; omega
    | non k0 k1 k2 k3 k4 k5 k6 => exact absurd h k4
  | dia h _ ih =>
    intro a' j' c' h'
    cases h' with
    | var k kv => rw [h] at k; injection k with k; omega
    | dia k hr => obtain ⟨rfl, rfl, rfl⟩ := ih hr; exact ⟨rfl, rfl, rfl⟩
    | fls k | tru k | not k _ | box k _ | par k _ => rw [h] at k; injection k with k; omega
    | non k0 k1 k2 k3 k4 k5 k6 => exact absurd h k5
  | par h _ ih =>
    intro a' j' c' h'
    cases h' with
    | var k kv => rw [h] at k; injection k with k; omega
    | par k hr => obtain ⟨rfl, rfl, rfl⟩ := ih hr; exact ⟨rfl, rfl, rfl⟩
    | fls k | tru k | not k _ | box k _ | dia k _ => rw [h] at k; injection k with k; omega
    | non k0 k1 k2 k3 k4 k5 k6 => exact absurd h k6
  | non h0 h1 h2 h3 h4 h5 h6 =>
    intro a' j' c' h'
    cases h' with
    | var k kv => exact absurd k (h0 _ kv)
    | fls k => exact absurd k h1
    | tru k => exact absurd k h2
    | not k _ => exact absurd k h3
    | box k _ => exact absurd k h4
    | dia k _ => exact absurd k h5
    | par k _ => exact absurd k h6
    | non k0 k1 k2 k3 k4 k5 k6 => exact ⟨rfl, rfl, rfl⟩
  | and _ _ ih1 ih2 =>
    intro a' j' c' h'
    cases h' with
    | and p q => obtain ⟨rfl, rfl, rfl⟩ := ih1 p; exact ih2 q
  | andS h =>
    intro a' j' c' h'
    cases h' with
    | andS k => exact ⟨rfl, rfl, rfl⟩
    | andC k _ _ => exact absurd k h
  | andC h _ _ ih1 ih2 =>
    intro a' j' c' h'
    cases h' with
    | andS k => exact absurd h k
    | andC k p q => obtain ⟨rfl, rfl, rfl⟩ := ih1 p; exact ih2 q
  | or _ _ ih1 ih2 =>
    intro a' j' c' h'
    cases h' with
    | or p q => obtain ⟨rfl, rfl, rfl⟩ := ih1 p; exact ih2 q
  | orS h =>
    intro a' j' c' h'
    cases h' with
    | orS k => exact ⟨rfl, rfl, rfl⟩
    | orC k _ _ => exact absurd k h
  | orC h _ _ ih1 ih2 =>
    intro a' j' c' h'
    cases h' with
    | orS k => exact absurd h k
    | orC k p q => obtain ⟨rfl, rfl, rfl⟩ := ih1 p; exact ih2 q
  | impC _ h _ ih1 ih2 =>
    intro a' j' c' h'
    cases h' with
    | impC p k q => obtain ⟨rfl, rfl, rfl⟩ := ih1 p; obtain ⟨rfl, rfl, rfl⟩ := ih2 q; exact ⟨rfl, rfl, rfl⟩
    | impS p k => obtain ⟨rfl, rfl, rfl⟩ := ih1 p; exact absurd h k
  | impS _ h ih1 =>
    intro a' j' c' h'
    cases h' with
    | impC p k q => obtain ⟨rfl, rfl, rfl⟩ := ih1 p; exact absurd k h
    | impS p k => exact ih1 p
theorem nx_lt {s : ByteArray} {i b : Nat} {bad : Bool} (h : nx s i bad = some b) : i < s.size ∧ bad = false := by
  unfold nx at h
  cases bad with
  | true => cases h
  | false =>
    refine ⟨?_, rfl⟩
    rw [if_neg (by decide)] at h
    rcases Nat.lt_or_ge i s.size with h1 | h1
    · exact h1
    · rw [Array.getElem?_eq_none (show s.data.size ≤ i from h1)] at h
      cases h
theorem ned_le (s : ByteArray) (i : Nat) (bad : Bool) (b : Nat) : i ≤ (ned s i bad b).1 ∧ (i ≤ s.size → (ned s i bad b).1 ≤ s.size) := by
  unfold ned
  split
  · rename_i h
    have := (nx_lt h).1
    exact ⟨Nat.le_succ _, fun _ => this⟩
  · exact ⟨Nat.le_refl _, id⟩
def tail : Lv → Bool | .orT => true | .andT => true | _ => false
/-- how long a formula is that was read -/
theorem Rdf.len {s : ByteArray} {l x i bad a j c} (h : Rdf s l x i bad a j c) : i ≤ j ∧ (i ≤ s.size → j ≤ s.size) ∧ (enc a).length ≤ (if tail l then (enc x).length else 1) + 3 * (j - i) := by
  induction h with
  | var h hv => have := nx_lt h; exact ⟨by omega, by omega, by simp [enc, tail]⟩
  | fls h => have := nx_lt h; exact ⟨by omega, by omega, by simp [enc, tail]⟩
  | tru h => have := nx_lt h; exact ⟨by omega, by omega, by simp [enc, tail]⟩
  | not h _ ih => have := nx_lt h; simp only [tail] at ih; exact ⟨by omega, fun _ => ih.2.1 (by omega), by simp [enc, tail] at ih ⊢; omega⟩
  | @box _ i bad _ _ _ h _ ih => have := nx_lt h; have := ned_le s (i + 1) bad 93; exact ⟨by omega, fun _ => ih.2.1 (by omega), by simp [enc, tail] at ih ⊢; omega⟩
  | @dia _ i bad _ _ _ h _ ih => have := nx_lt h; have := ned_le s (i + 1) bad 62; exact ⟨by omega, fun _ => ih.2.1 (by omega), by simp [enc, tail] at ih ⊢; omega⟩
  | @par _ i bad _ j c h _ ih => have := nx_lt h; have := ned_le s j c 41; exact ⟨by omega, fun _ => this.2 (ih.2.1 (by omega)), by simp [tail] at ih ⊢; omega⟩
  | non => exact ⟨Nat.le_refl _, id, by simp [enc, tail]⟩
  | and _ _ ih1 ih2 => exact ⟨by omega, fun h => ih2.2.1 (ih1.2.1 h), by simp [tail] at ih1 ih2 ⊢; omega⟩
  | andS h => exact ⟨Nat.le_refl _, id, by simp [tail]⟩
  | andC h _ _ ih1 ih2 => have := nx_lt h; exact ⟨by omega, fun _ => ih2.2.1 (ih1.2.1 (by omega)), by simp [enc, tail] at ih1 ih2 ⊢; omega⟩
  | or _ _ ih1 ih2 => exact ⟨by omega, fun h => ih2.2.1 (ih1.2.1 h), by simp [tail] at ih1 ih2 ⊢; omega⟩
  | orS h => exact ⟨Nat.le_refl _, id, by simp [tail]⟩
  | orC h _ _ ih1 ih2 => have := nx_lt h; exact ⟨by omega, fun _ => ih2.2.1 (ih1.2.1 (by omega)), by simp [enc, tail] at ih1 ih2 ⊢; omega⟩
  | impC _ h _ ih1 ih2 => have := nx_lt h; exact ⟨by omega, fun _ => ih2.2.1 (by omega), by simp [enc, tail] at ih1 ih2 ⊢; omega⟩
  | impS _ h ih1 => exact ⟨ih1.1, ih1.2.1, by simp [tail] at ih1 ⊢; omega⟩
theorem Rdf.good {s : ByteArray} {l x i bad a j c} (h : Rdf s l x i bad a j c) : (tail l = true → x.ok = true) → a.ok = true := by
  induction h with
  | var h hv => intro _; simp [Fm.ok]; omega
  | fls h | tru h | non => intro _; rfl
  | not h _ ih => intro _; have := ih (fun h => by cases h); simp [Fm.ok, this]
  | box h _ ih | dia h _ ih => intro _; have := ih (fun h => by cases h); simp [Fm.ok, this]
  | par h _ ih => intro _; exact ih (fun h => by cases h)
  | and _ _ ih1 ih2 => intro _; exact ih2 (fun _ => ih1 (fun h => by cases h))
  | andS h => intro k; exact k rfl
  | andC h _ _ ih1 ih2 => intro k; exact ih2 (fun _ => by have := ih1 (fun h => by cases h); simp [Fm.ok, this, k rfl])
  | or _ _ ih1 ih2 => intro _; exact ih2 (fun _ => ih1 (fun h => by cases h))
  | orS h => intro k; exact k rfl
  | orC h _ _ ih1 ih2 => intro k; exact ih2 (fun _ => by have := ih1 (fun h => by cases h); simp [Fm.ok, this, k rfl])
  | impC _ h _ ih1 ih2 => intro _; have h1 := ih1 (fun h => by cases h); have h2 := ih2 (fun h => by cases h); simp [Fm.ok, h1, h2]
  | impS _ h ih1 => intro _; exact ih1 (fun h => by cases h)
/-- how much a reader has left -/
def mz (s : ByteArray) (i : Nat) (bad : Bool) : Nat := if bad then 0 else s.size - i
theorem nx_mz {s : ByteArray} {i b n : Nat} {bad : Bool} (h : nx s i bad = some b) (hm : mz s i bad ≤ n) : mz s (i + 1) bad < n := by
  obtain ⟨h1, rfl⟩ := nx_lt h
  unfold mz at *
  simp at *
  omega
theorem ned_mz (s : ByteArray) (i : Nat) (bad : Bool) (b : Nat) : mz s (ned s i bad b).1 (ned s i bad b).2 ≤ mz s i bad := by
  unfold ned mz
  split
  · cases bad <;> simp <;> omega
  · simp
theorem ned_bad {s : ByteArray} {i b : Nat} {bad : Bool} (h : (ned s i bad b).2 = false) : bad = false := by
  unfold ned at h
  split at h
  · exact h
  · cases h
theorem Rdf.bad {s : ByteArray} {l x i bad a j c} (h : Rdf s l x i bad a j c) : c = false → bad = false := by
  induction h with
  | var h hv | fls h | tru h => exact id
  | not _ _ ih => exact ih
  | box _ _ ih | dia _ _ ih => exact fun k => ned_bad (ih k)
  | par _ _ ih => exact fun k => ih (ned_bad k)
  | non => intro k; cases k
  | and _ _ ih1 ih2 | andC _ _ _ ih1 ih2 | or _ _ ih1 ih2 | orC _ _ _ ih1 ih2 => exact fun k => ih1 (ih2 k)
  | andS _ | orS _ => exact id
  | impC _ _ _ ih1 ih2 => exact fun k => ih1 (ih2 k)
  | impS _ _ ih => exact ih
theorem Rdf.mz {s : ByteArray} {l x i bad a j c} (h : Rdf s l x i bad a j c) : mz s j c ≤ mz s i bad := by
  have h1 := h.len.1
  have h2 := h.bad
  unfold Go.Proofs.YtcikenffeekkeaaGreatDoor.mz
  cases c with
  | true => simp
  | false => rw [h2 rfl]; simp; omega
theorem Rdf.len1 {s : ByteArray} {i bad a j c} {l : Lv} (h : Rdf s l .fls i bad a j c) (ht : Go.Proofs.YtcikenffeekkeaaGreatDoor.tail l = false) : (enc a).length ≤ 1 + 3 * (j - i) := by
  have := h.len.2.2
  rw [ht] at this
  simpa using this
/- Plain law: the text of a formula is read as the formula; it has at most 120 bytes. No program in sight. -/
/-- the text t stands in s from place i on -/
def Ats (s : ByteArray) (i : Nat) (t : ByteArray) : Prop := ∀ k, k < t.size → s.data[i + k]? = t.data[k]?
theorem ba_append (a b : ByteArray) : (a ++ b).data = a.data ++ b.data := ByteArray.data_append
theorem Ats.app {s a b : ByteArray} {i : Nat} (h : Ats s i (a ++ b)) : Ats s i a ∧ Ats s (i + a.size) b := by
  have e := ba_append a b
  refine ⟨fun k hk => ?_, fun k hk => ?_⟩
  · rw [h k (by rw [ByteArray.size_append]; omega), e, Array.getElem?_append_left (show k < a.data.size from hk)]
  · rw [show i + a.size + k = i + (a.size + k) by omega, h (a.size + k) (by rw [ByteArray.size_append]; omega), e, Array.getElem?_append_right (show a.data.size ≤ a.size + k from Nat.le_add_right _ _)]
    congr 1
    show a.size + k - a.size = k
    omega
theorem Ats.nx {s : ByteArray} {i : Nat} {c : UInt8} (h : Ats s i ⟨#[c]⟩) : nx s i false = some c.toNat := by
  have := h 0 (show 0 < 1 by decide)
  rw [Nat.add_zero] at this
  unfold Go.Proofs.YtcikenffeekkeaaGreatDoor.nx
  rw [if_neg (by decide), this]
  rfl
theorem Ats.self (s : ByteArray) : Ats s 0 s := fun k _ => by rw [Nat.zero_add]
def fol (l : Nat) (o : Option Nat) : Prop := (l ≤ 2 → o ≠ some 38) ∧ (l ≤ 1 → o ≠ some 124) ∧ (l ≤ 0 → o ≠ some 62)
def lvo : Nat → Lv | 0 => .imp | 1 => .or | 2 => .and | _ => .pre
/-- reading a formula's text at a level gives it -/
def RP (g : Fm) (l : Nat) (t : ByteArray) : Prop := ∀ s i, Ats s i t → fol l (nx s (i + t.size) false) → Rdf s (lvo l) .fls i false g (i + t.size) false
/-- .. and comes to the tail behind it -/
def RL2 (g : Fm) (t : ByteArray) : Prop := ∀ s i, Ats s i t → ∀ o k d, Rdf s .andT g (i + t.size) false o k d → Rdf s .and .fls i false o k d
def RL1 (g : Fm) (t : ByteArray) : Prop := ∀ s i, Ats s i t → nx s (i + t.size) false ≠ some 38 → ∀ o k d, Rdf s .orT g (i + t.size) false o k d → Rdf s .or .fls i false o k d
theorem RL2.rp {g : Fm} {t : ByteArray} (h : RL2 g t) : RP g 2 t := fun s i ha hf => h s i ha _ _ _ (.andS (hf.1 (Nat.le_refl _)))
theorem RL1.rp {g : Fm} {t : ByteArray} (h : RL1 g t) : RP g 1 t := fun s i ha hf => h s i ha (hf.1 (by decide)) _ _ _ (.orS (hf.2.1 (Nat.le_refl _)))
theorem RP.l2 {g : Fm} {t : ByteArray} (h : RP g 3 t) : RL2 g t := fun s i ha o k d hr => .and (h s i ha ⟨fun h => by omega, fun h => by omega, fun h => by omega⟩) hr
theorem RP.l1 {g : Fm} {t : ByteArray} (h : RP g 2 t) : RL1 g t := fun s i ha hn o k d hr => .or (h s i ha ⟨fun _ => hn, fun h => by omega, fun h => by omega⟩) hr
theorem RP.p0 {g : Fm} {t : ByteArray} (h : RP g 1 t) : RP g 0 t := fun s i ha hf => .impS (h s i ha ⟨fun _ => hf.1 (by decide), fun _ => hf.2.1 (by decide), fun h => by omega⟩) (hf.2.2 (Nat.le_refl _))
theorem RP.par {g : Fm} {t : ByteArray} (h : RP g 0 t) : RP g 3 (((⟨#[40]⟩ : ByteArray) ++ t) ++ (⟨#[41]⟩ : ByteArray)) := by
  intro s i ha hf
  obtain ⟨h12, h3⟩ := ha.app
  obtain ⟨h1, h2⟩ := h12.app
  have e1 : (⟨#[40]⟩ : ByteArray).size = 1 := rfl
  have e2 : (⟨#[41]⟩ : ByteArray).size = 1 := rfl
  rw [ByteArray.size_append, e1] at h3
  rw [e1] at h2
  have n1 := h1.nx
  have n3 := h3.nx
  rw [show i + (1 + t.size) = i + 1 + t.size by omega] at n3
  have hr := h s (i + 1) h2 (by rw [n3]; exact ⟨fun _ => by decide, fun _ => by decide, fun _ => by decide⟩)
  have hp := Rdf.par (x := .fls) n1 hr
  have hn : ned s (i + 1 + t.size) false 41 = (i + 1 + t.size + 1, false) := if_pos n3
  rw [hn] at hp
  rw [ByteArray.size_append, ByteArray.size_append, e1, e2, show i + (1 + t.size + 1) = i + 1 + t.size + 1 by omega]
  exact hp
/-- all the levels of a formula's text -/
structure RA (g : Fm) : Prop where
  p3 : RP g 3 (wrp (lv g) 3 (tbx g))
  l2 : RL2 g (wrp (lv g) 2 (tbx g))
  l1 : RL1 g (wrp (lv g) 1 (tbx g))
  p0 : RP g 0 (wrp (lv g) 0 (tbx g))
theorem RA.p2 {g : Fm} (h : RA g) : RP g 2 (wrp (lv g) 2 (tbx g)) := h.l2.rp
theorem RA.p1 {g : Fm} (h : RA g) : RP g 1 (wrp (lv g) 1 (tbx g)) := h.l1.rp
theorem wrp_noT {a b : Nat} {t : ByteArray} (h : b ≤ a) : wrp a b t = t := if_neg (by omega)
theorem wrp_yesT {a b : Nat} {t : ByteArray} (h : a < b) : wrp a b t = ((⟨#[40]⟩ : ByteArray) ++ t) ++ (⟨#[41]⟩ : ByteArray) := if_pos h
theorem RA.of3 {g : Fm} (hl : lv g = 3) (h : RP g 3 (tbx g)) : RA g := by
  refine ⟨?_, ?_, ?_, ?_⟩ <;> rw [hl, wrp_noT (by decide)]
  · exact h
  · exact h.l2
  · exact h.l2.rp.l1
  · exact h.l2.rp.l1.rp.p0
theorem RA.of2 {g : Fm} (hl : lv g = 2) (h : RL2 g (tbx g)) : RA g := by
  refine ⟨?_, ?_, ?_, ?_⟩ <;> rw [hl]
  · rw [wrp_yesT (by decide)]; exact h.rp.l1.rp.p0.par
  · rw [wrp_noT (by decide)]; exact h
  · rw [wrp_noT (by decide)]; exact h.rp.l1
  · rw [wrp_noT (by decide)]; exact h.rp.l1.rp.p0
theorem RA.of1 {g : Fm} (hl : lv g = 1) (h : RL1 g (tbx g)) : RA g := by
  refine ⟨?_, ?_, ?_, ?_⟩ <;> rw [hl]
  · rw [wrp_yesT (by decide)]; exact h.rp.p0.par
  · rw [wrp_yesT (by decide)]; exact h.rp.p0.par.l2
  · rw [wrp_noT (by decide)]; exact h
  · rw [wrp_noT (by decide)]; exact h.rp.p0
theorem RA.of0 {g : Fm} (hl : lv g = 0) (h : RP g 0 (tbx g)) : RA g := by
  refine ⟨?_, ?_, ?_, ?_⟩ <;> rw [hl]
  · rw [wrp_yesT (by decide)]; exact h.par
  · rw [wrp_yesT (by decide)]; exact h.par.l2
  · rw [wrp_yesT (by decide)]; exact h.par.l2.rp.l1
  · rw [wrp_noT (by decide)]; exact h
theorem ltr_at {s : Nat} (h : s ≤ 5) : ∃ c : UInt8, ltr s = ⟨#[c]⟩ ∧ c.toNat = 112 + s := by
  have : s = 0 ∨ s = 1 ∨ s = 2 ∨ s = 3 ∨ s = 4 ∨ s = 5 := by omega
  rcases this with rfl | rfl | rfl | rfl | rfl | rfl
  · exact ⟨112, by rfl, by rfl⟩
  · exact ⟨113, by rfl, by rfl⟩
  · exact ⟨114, by rfl, by rfl⟩
  · exact ⟨115, by rfl, by rfl⟩
  · exact ⟨116, by rfl, by rfl⟩
  · exact ⟨117, by rfl, by rfl⟩
theorem one_size (c : UInt8) : (⟨#[c]⟩ : ByteArray).size = 1 := rfl
theorem two_app (c d : UInt8) : (⟨#[c, d]⟩ : ByteArray) = (⟨#[c]⟩ : ByteArray) ++ (⟨#[d]⟩ : ByteArray) := by
  apply ByteArray.ext
  rw [ba_append]
  rfl

theorem isfl_eq {b : Fm} (h : isfl b = true) : b = .fls := by cases b <;> simp [isfl] at h <;> rfl
theorem ra (g : Fm) (hok : g.ok = true) : RA g := by
  induction g with
  | var s =>
    refine RA.of3 rfl ?_
    intro t i ha hf
    simp [Fm.ok] at hok
    obtain ⟨c, e, hc⟩ := ltr_at hok
    rw [tbx, e] at ha ⊢
    have hn := ha.nx
    rw [hc] at hn
    exact .var hn (by omega)
  | fls =>
    refine RA.of3 rfl ?_
    intro t i ha hf
    exact .fls ha.nx
  | un k a ih =>
    have iha := ih (by simpa [Fm.ok] using hok)
    refine RA.of3 (by cases k <;> rfl) ?_
    intro t i ha hf
    cases k with
    | box =>
      rw [tbx] at ha ⊢
      obtain ⟨h1, h2⟩ := ha.app
      rw [two_app] at h1
      obtain ⟨h0, h1⟩ := h1.app
      have hned : ned t (i + 1) false 93 = (i + 1 + 1, false) := if_pos h1.nx
      have hr := iha.p3 t _ h2 ⟨fun h => by omega, fun h => by omega, fun h => by omega⟩
      rw [ByteArray.size_append, ← Nat.add_assoc]
      refine .box h0.nx ?_
      rw [hned]
      exact hr
    | dia =>
      rw [tbx] at ha ⊢
      obtain ⟨h1, h2⟩ := ha.app
      rw [two_app] at h1
      obtain ⟨h0, h1⟩ := h1.app
      have hned : ned t (i + 1) false 62 = (i + 1 + 1, false) := if_pos h1.nx
      have hr := iha.p3 t _ h2 ⟨fun h => by omega, fun h => by omega, fun h => by omega⟩
      rw [ByteArray.size_append, ← Nat.add_assoc]
      refine .dia h0.nx ?_
      rw [hned]
      exact hr
  | bin k a b iha ihb =>
    simp [Fm.ok] at hok
    have ra := iha hok.1
    have rb := ihb hok.2
    cases k with
    | and =>
      refine RA.of2 rfl ?_
      intro t i ha o q d hr
      rw [tbx] at ha hr
      obtain ⟨h12, h3⟩ := ha.app
      obtain ⟨h1, h2⟩ := h12.app
      rw [ByteArray.size_append, one_size] at h3
      rw [ByteArray.size_append, ByteArray.size_append, one_size] at hr
      refine ra.l2 t i h1 o q d (.andC h2.nx (rb.p3 t _ (by rw [← Nat.add_assoc] at h3; exact h3) ⟨fun h => by omega, fun h => by omega, fun h => by omega⟩) ?_)
      rw [show i + (wrp (lv a) 2 (tbx a)).size + 1 + (wrp (lv b) 3 (tbx b)).size = i + ((wrp (lv a) 2 (tbx a)).size + 1 + (wrp (lv b) 3 (tbx b)).size) by omega]
      exact hr
    | or =>
      refine RA.of1 rfl ?_
      intro t i ha hn o q d hr
      rw [tbx] at ha hr hn
      obtain ⟨h12, h3⟩ := ha.app
      obtain ⟨h1, h2⟩ := h12.app
      rw [ByteArray.size_append, one_size] at h3
      rw [ByteArray.size_append, ByteArray.size_append, one_size] at hr hn
      have e : i + (wrp (lv a) 1 (tbx a)).size + 1 + (wrp (lv b) 2 (tbx b)).size = i + ((wrp (lv a) 1 (tbx a)).size + 1 + (wrp (lv b) 2 (tbx b)).size) := by omega
      refine ra.l1 t i h1 (by rw [h2.nx]; decide) o q d (.orC h2.nx (rb.p2 t _ (by rw [← Nat.add_assoc] at h3; exact h3) ⟨fun _ => by rw [e]; exact hn, fun h => by omega, fun h => by omega⟩) ?_)
      rw [e]
      exact hr
    | imp =>
      by_cases hfl : isfl b = true
      · obtain rfl := isfl_eq hfl
        refine RA.of3 (by simp [lv, isfl]) ?_
        intro t i ha hf
        by_cases hfa : isfl a = true
        · obtain rfl := isfl_eq hfa
          rw [show tbx (.bin .imp .fls .fls) = ⟨#[84]⟩ from rfl] at ha ⊢
          exact .tru ha.nx
        · rw [tbx, if_pos hfl, if_neg hfa] at ha ⊢
          obtain ⟨h1, h2⟩ := ha.app
          have hr := ra.p3 t _ h2 ⟨fun h => by omega, fun h => by omega, fun h => by omega⟩
          rw [ByteArray.size_append, ← Nat.add_assoc]
          exact .not h1.nx hr
      · refine RA.of0 (by simp [lv, hfl]) ?_
        intro t i ha hf
        rw [tbx, if_neg hfl] at ha hf ⊢
        obtain ⟨h12, h3⟩ := ha.app
        obtain ⟨h1, h2⟩ := h12.app
        rw [ByteArray.size_append, one_size] at h3
        rw [ByteArray.size_append, ByteArray.size_append, one_size] at hf ⊢
        have e : i + (wrp (lv a) 1 (tbx a)).size + 1 + (wrp (lv b) 0 (tbx b)).size = i + ((wrp (lv a) 1 (tbx a)).size + 1 + (wrp (lv b) 0 (tbx b)).size) := by omega
        rw [← e] at hf ⊢
        exact .impC (ra.p1 t i h1 ⟨fun _ => by rw [h2.nx]; decide, fun _ => by rw [h2.nx]; decide, fun h => by omega⟩) h2.nx (rb.p0 t _ (by rw [← Nat.add_assoc] at h3; exact h3) hf)
theorem txt_read (g : Fm) (hok : g.ok = true) : Rdf (txt g) .imp .fls 0 false g (txt g).size false := by
  have h := (ra g hok).p0
  rw [wrp_noT (Nat.zero_le _)] at h
  have hr := h (tbx g) 0 (Ats.self _) (by rw [Nat.zero_add]; unfold nx; rw [if_neg (by decide), Array.getElem?_eq_none (show (tbx g).data.size ≤ (tbx g).size from Nat.le_refl _)]; exact ⟨fun _ => by simp, fun _ => by simp, fun _ => by simp⟩)
  rw [Nat.zero_add] at hr
  exact hr
theorem wrp_monoT (a l : Nat) (hl : l ≤ 3) (t : ByteArray) : (wrp a l t).size ≤ (wrp a 3 t).size := by
  unfold wrp
  have h1 : (⟨#[40]⟩ : ByteArray).size = 1 := rfl
  have h2 : (⟨#[41]⟩ : ByteArray).size = 1 := rfl
  split
  · rw [if_pos (by omega)]; exact Nat.le_refl _
  · split
    · simp only [ByteArray.size_append]; omega
    · exact Nat.le_refl _
theorem tb_120 (g : Fm) : (wrp (lv g) 3 (tbx g)).size ≤ 3 * (enc g).length := by
  have p1 : (⟨#[40]⟩ : ByteArray).size = 1 := rfl
  have p2 : (⟨#[41]⟩ : ByteArray).size = 1 := rfl
  induction g with
  | var s => rw [wrp_noT (show 3 ≤ lv (.var s) from Nat.le_refl _)]; simp only [tbx, ltr, enc, List.length_cons, List.length_nil, ByteArray.size_extract]; omega
  | fls => rw [wrp_noT (show 3 ≤ lv .fls from Nat.le_refl _)]; simp [tbx, enc]; decide
  | un k a ih =>
    have e1 : (⟨#[91, 93]⟩ : ByteArray).size = 2 := rfl
    have e2 : (⟨#[60, 62]⟩ : ByteArray).size = 2 := rfl
    cases k
    · rw [wrp_noT (show 3 ≤ lv (.un .box a) from Nat.le_refl _)]; simp only [tbx, enc, List.length_cons, ByteArray.size_append]; omega
    · rw [wrp_noT (show 3 ≤ lv (.un .dia a) from Nat.le_refl _)]; simp only [tbx, enc, List.length_cons, ByteArray.size_append]; omega
  | bin k a b iha ihb =>
    have e1 : (⟨#[38]⟩ : ByteArray).size = 1 := rfl
    have e2 : (⟨#[124]⟩ : ByteArray).size = 1 := rfl
    have e3 : (⟨#[62]⟩ : ByteArray).size = 1 := rfl
    have e4 : (⟨#[126]⟩ : ByteArray).size = 1 := rfl
    have e5 : (⟨#[84]⟩ : ByteArray).size = 1 := rfl
    have h2 := wrp_monoT (lv a) 2 (by decide) (tbx a)
    have h3 := wrp_monoT (lv a) 1 (by decide) (tbx a)
    have h5 := wrp_monoT (lv b) 2 (by decide) (tbx b)
    have h6 := wrp_monoT (lv b) 0 (by decide) (tbx b)
    cases k
    · rw [wrp_yesT (show lv (.bin .and a b) < 3 by simp [lv])]; simp only [tbx, enc, List.length_cons, List.length_append, ByteArray.size_append]; omega
    · rw [wrp_yesT (show lv (.bin .or a b) < 3 by simp [lv])]; simp only [tbx, enc, List.length_cons, List.length_append, ByteArray.size_append]; omega
    · by_cases hb : isfl b = true
      · rw [wrp_noT (show 3 ≤ lv (.bin .imp a b) by simp [lv, hb]), tbx, if_pos hb]
        simp only [enc, List.length_cons, List.length_append]
        split
        · omega
        · simp only [ByteArray.size_append]; omega
      · rw [wrp_yesT (show lv (.bin .imp a b) < 3 by simp [lv, hb]), tbx, if_neg hb]
        simp only [enc, List.length_cons, List.length_append, ByteArray.size_append]
        omega
theorem txt_120 (g : Fm) : (txt g).size ≤ 3 * (enc g).length := Nat.le_trans (wrp_monoT _ _ (by decide) _) (tb_120 g)
/- Plain law: lists of texts, each once, in ascending order: sorting and dropping repetitions gives what insertion gives. No program in sight. -/
abbrev T8 := List UInt8
theorem lt8_le {a b c : T8} (h : a < b) (h' : b ≤ c) : a < c := by
  rcases List.le_iff_lt_or_eq.1 h' with h1 | h1
  · exact List.lt_trans h h1
  · rw [← h1]; exact h
theorem le8_lt {a b c : T8} (h : a ≤ b) (h' : b < c) : a < c := by
  rcases List.le_iff_lt_or_eq.1 h with h1 | h1
  · exact List.lt_trans h1 h'
  · rw [h1]; exact h'
theorem le8_ne {a b : T8} (h : a ≤ b) (h' : ¬ b = a) : a < b := by
  rcases List.le_iff_lt_or_eq.1 h with h1 | h1
  · exact h1
  · exact absurd h1.symm h'
theorem asc8_eq : ∀ (xs ys : List T8), xs.Pairwise (· < ·) → ys.Pairwise (· < ·) → (∀ a, a ∈ xs ↔ a ∈ ys) → xs = ys
  | [], [], _, _, _ => rfl
  | [], y :: ys, _, _, h => by have := (h y).2 (by simp); simp at this
  | x :: xs, [], _, _, h => by have := (h x).1 (by simp); simp at this
  | x :: xs, y :: ys, hx, hy, h => by
    rw [List.pairwise_cons] at hx hy
    have e : x = y := by
      have h1 := (h x).1 (by simp)
      have h2 := (h y).2 (by simp)
      rw [List.mem_cons] at h1 h2
      rcases h1 with h1 | h1
      · exact h1
      · rcases h2 with h2 | h2
        · exact h2.symm
        · exact absurd (List.lt_trans (hx.1 y h2) (hy.1 x h1)) (List.lt_irrefl _)
    subst e
    congr 1
    refine asc8_eq xs ys hx.2 hy.2 fun a => ?_
    constructor
    · intro ha
      have := (h a).1 (List.mem_cons_of_mem _ ha)
      rw [List.mem_cons] at this
      rcases this with rfl | h1
      · exact absurd (hx.1 _ ha) (List.lt_irrefl _)
      · exact h1
    · intro ha
      have := (h a).2 (List.mem_cons_of_mem _ ha)
      rw [List.mem_cons] at this
      rcases this with rfl | h1
      · exact absurd (hy.1 _ ha) (List.lt_irrefl _)
      · exact h1
theorem sorted8 (l : List T8) : (l.mergeSort fun x y => decide (x ≤ y)).Pairwise (· ≤ ·) := by
  have := List.pairwise_mergeSort (le := fun x y : T8 => decide (x ≤ y)) (fun a b c h1 h2 => by simp only [decide_eq_true_eq] at *; exact List.le_trans h1 h2) (fun a b => by simp only [Bool.or_eq_true, decide_eq_true_eq]; exact List.le_total a b) l
  exact this.imp fun h => by simpa using h
/-- of an ascending list with repetitions, each once -/
theorem compact8 (s : List T8) (h : s.Pairwise (· ≤ ·)) : ∀ m, m ≤ s.length → (Lib.compactUpTo s.toArray m).Pairwise (· < ·) ∧ (∀ a, a ∈ Lib.compactUpTo s.toArray m ↔ a ∈ s.take m) := by
  intro m
  have hle : ∀ i j (hi : i < s.length) (hj : j < s.length), i ≤ j → s[i] ≤ s[j] := fun i j hi hj hij => by
    rcases Nat.lt_or_eq_of_le hij with h1 | h1
    · exact List.pairwise_iff_getElem.1 h i j hi hj h1
    · subst h1; exact List.le_refl _
  induction m with
  | zero => intro _; simp [Lib.compactUpTo]
  | succ m ih =>
    intro hm
    obtain ⟨h1, h2⟩ := ih (by omega)
    have hmem : ∀ a, a ∈ s.take (m + 1) ↔ a ∈ s.take m ∨ a = s[m] := fun a => by
      rw [List.take_succ_eq_append_getElem (by omega), List.mem_append, List.mem_singleton]
    have e : s.toArray[m]! = s[m] := by simp [show m < s.length by omega]
    rw [Lib.compactUpTo_succ]
    by_cases hk : Lib.keeps s.toArray m = true
    · rw [if_pos hk, e]
      refine ⟨List.pairwise_append.2 ⟨h1, List.pairwise_singleton _ _, fun a ha b hb => ?_⟩, fun a => ?_⟩
      · have hb' : b = s[m] := by simpa using hb
        subst hb'
        obtain ⟨i, hi, rfl⟩ := List.mem_iff_getElem.1 ((h2 a).1 ha)
        simp only [List.length_take] at hi
        rw [List.getElem_take]
        have hmp : 0 < m := by omega
        simp only [Lib.keeps, decide_eq_true_eq] at hk
        rcases hk with hk | hk
        · omega
        · have e1 : s.toArray[m - 1]! = s[m - 1] := by simp [show m - 1 < s.length by omega]
          rw [e, e1] at hk
          have a1 := hle i (m - 1) (by omega) (by omega) (by omega)
          have a2 := hle (m - 1) m (by omega) (by omega) (by omega)
          exact le8_lt a1 (le8_ne a2 hk)
      · rw [List.mem_append, h2, hmem, List.mem_singleton]
    · rw [if_neg hk, List.append_nil]
      refine ⟨h1, fun a => ?_⟩
      rw [h2, hmem]
      constructor
      · exact .inl
      · rintro (ha | ha)
        · exact ha
        · have hk' : ¬ (m = 0 ∨ s.toArray[m]! ≠ s.toArray[m - 1]!) := by simpa [Lib.keeps] using hk
          have hm0 : ¬ m = 0 := fun e => hk' (.inl e)
          have e1 : s.toArray[m - 1]! = s[m - 1] := by simp [show m - 1 < s.length by omega]
          have e2 : s[m] = s[m - 1] := by
            have := Classical.not_not.1 fun hne => hk' (.inr hne)
            rw [e, e1] at this
            exact this
          rw [ha, e2, List.mem_iff_getElem]
          exact ⟨m - 1, by simp; omega, by rw [List.getElem_take]⟩
/-- an ascending list with one more, if it is not there -/
def ins8 (x : T8) : List T8 → List T8
  | [] => [x]
  | y :: l => if y < x then y :: ins8 x l else if y = x then y :: l else x :: y :: l
theorem ins8_mem (x a : T8) (l : List T8) : a ∈ ins8 x l ↔ a = x ∨ a ∈ l := by
  induction l with
  | nil => simp [ins8]
  | cons y l ih =>
    rw [ins8]
    split
    · rw [List.mem_cons, ih, List.mem_cons]
      constructor
      · rintro (h | h | h)
        · exact .inr (.inl h)
        · exact .inl h
        · exact .inr (.inr h)
      · rintro (h | h | h)
        · exact .inr (.inl h)
        · exact .inl h
        · exact .inr (.inr h)
    · split
      · rename_i h
        subst h
        constructor
        · exact .inr
        · rintro (h | h)
          · rw [h]; simp
          · exact h
      · rw [List.mem_cons]
theorem ins8_asc (x : T8) (l : List T8) (h : l.Pairwise (· < ·)) : (ins8 x l).Pairwise (· < ·) := by
  induction l with
  | nil => exact List.pairwise_singleton _ _
  | cons y l ih =>
    rw [List.pairwise_cons] at h
    rw [ins8]
    split
    · rename_i hy
      rw [List.pairwise_cons]
      refine ⟨fun a ha => ?_, ih h.2⟩
      rcases (ins8_mem x a l).1 ha with rfl | ha
      · exact hy
      · exact h.1 a ha
    · rename_i hy
      split
      · exact List.pairwise_cons.2 h
      · rename_i hne
        have hxy : x < y := le8_ne (List.not_lt.1 hy) hne
        rw [List.pairwise_cons]
        refine ⟨fun a ha => ?_, List.pairwise_cons.2 h⟩
        rcases List.mem_cons.1 ha with rfl | ha
        · exact hxy
        · exact List.lt_trans hxy (h.1 a ha)
theorem ins8_len (x : T8) (l : List T8) : (ins8 x l).length ≤ l.length + 1 := by
  induction l with
  | nil => simp [ins8]
  | cons y l ih =>
    rw [ins8]
    split
    · simp; omega
    · split <;> simp
/-- insertion by the place of the first that is not less -/
theorem ins8_at (x : T8) : ∀ (l : List T8) (k : Nat), k ≤ l.length → (∀ i (h : i < l.length), i < k → l[i] < x) → (∀ h : k < l.length, ¬ l[k] < x) →
    ins8 x l = if l[k]? = some x then l else l.take k ++ [x] ++ l.drop k
  | [], k, hk, _, _ => by
    obtain rfl : k = 0 := by simpa using hk
    simp [ins8]
  | y :: l, 0, _, _, h2 => by
    have hy : ¬ y < x := h2 (by simp)
    rw [ins8, if_neg hy]
    by_cases e : y = x
    · rw [if_pos e, if_pos (by simp [e])]
    · rw [if_neg e, if_neg (by simp [e])]
      rfl
  | y :: l, k + 1, hk, h1, h2 => by
    have hy : y < x := h1 0 (by simp) (by omega)
    rw [ins8, if_pos hy, ins8_at x l k (by simpa using hk) (fun i hi hik => h1 (i + 1) (by simp only [List.length_cons]; omega) (by omega)) (fun h => h2 (by simp only [List.length_cons]; omega))]
    rw [List.getElem?_cons_succ]
    split <;> simp
def sbI8 (xs : List T8) : List T8 := xs.foldl (fun l x => ins8 x l) []
theorem foldI (xs : List T8) : ∀ l : List T8, l.Pairwise (· < ·) → (xs.foldl (fun l x => ins8 x l) l).Pairwise (· < ·) ∧ (∀ a, a ∈ xs.foldl (fun l x => ins8 x l) l ↔ a ∈ xs ∨ a ∈ l) ∧ (xs.foldl (fun l x => ins8 x l) l).length ≤ xs.length + l.length := by
  induction xs with
  | nil => intro l h; exact ⟨h, fun a => by simp, by simp⟩
  | cons x xs ih =>
    intro l h
    obtain ⟨h1, h2, h3⟩ := ih (ins8 x l) (ins8_asc x l h)
    refine ⟨h1, fun a => ?_, ?_⟩
    · rw [List.foldl_cons, h2, ins8_mem, List.mem_cons]
      constructor
      · rintro (h | h | h)
        · exact .inl (.inr h)
        · exact .inl (.inl h)
        · exact .inr h
      · rintro ((h | h) | h)
        · exact .inr (.inl h)
        · exact .inl h
        · exact .inr (.inr h)
    · rw [List.foldl_cons]
      have := ins8_len x l
      simp only [List.length_cons]
      omega
theorem sbI8_sort (xs : List T8) : Lib.compactUpTo (xs.mergeSort fun x y => decide (x ≤ y)).toArray xs.length = sbI8 xs := by
  have hl : (xs.mergeSort fun x y => decide (x ≤ y)).length = xs.length := List.length_mergeSort _
  obtain ⟨h1, h2⟩ := compact8 _ (sorted8 xs) xs.length (by rw [hl]; exact Nat.le_refl _)
  obtain ⟨k1, k2, -⟩ := foldI xs [] List.Pairwise.nil
  refine asc8_eq _ _ h1 k1 fun a => ?_
  unfold sbI8
  rw [h2, List.take_of_length_le (by rw [hl]; exact Nat.le_refl _), List.mem_mergeSort, k2]
  simp
def t8 (b : ByteArray) : T8 := b.data.toList
end Go.Proofs.YtcikenffeekkeaaGreatDoor

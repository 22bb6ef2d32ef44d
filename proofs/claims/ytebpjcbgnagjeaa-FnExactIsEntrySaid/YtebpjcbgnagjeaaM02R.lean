/- Plain law: what the readers of formulas' texts read; a text is read in one way alone. No program in sight. -/
import Derived.Test.YtebpjcbgnagjeaaB1
namespace Go.Proofs.Ytebpjcbgnagjeaa
open Go.RowKit
set_option linter.unusedVariables false
set_option linter.unusedSimpArgs false
/-- the byte that a reader has next -/
def nx (s : ByteArray) (i : Nat) (bad : Bool) : Option Nat := if bad then none else (s.data[i]?).map UInt8.toNat
/-- a byte that has to be the next one -/
def ned (s : ByteArray) (i : Nat) (bad : Bool) (b : Nat) : Nat × Bool := if nx s i bad = some b then (i + 1, bad) else (i, true)
inductive Lv | imp | or | and | pre | orT | andT
/-- from position i a reader of this level reads the formula a and comes to j; behind a the tails stand with what was read -/
inductive Rdf (s : ByteArray) : Lv → Fm → Nat → Bool → Fm → Nat → Bool → Prop
  | var {x i bad v} : nx s i bad = some (112 + v) → v < 6 → Rdf s .pre x i bad (.var v) (i + 1) bad
  | fls {x i bad} : nx s i bad = some 70 → Rdf s .pre x i bad .fls (i + 1) bad
  | tru {x i bad} : nx s i bad = some 84 → Rdf s .pre x i bad (.bin .imp .fls .fls) (i + 1) bad
  | not {x i bad a j c} : nx s i bad = some 126 → Rdf s .pre .fls (i + 1) bad a j c → Rdf s .pre x i bad (.bin .imp a .fls) j c
  | box {x i bad a j c} : nx s i bad = some 91 → Rdf s .pre .fls (ned s (i + 1) bad 93).1 (ned s (i + 1) bad 93).2 a j c → Rdf s .pre x i bad (.un .box a) j c
  | dia {x i bad a j c} : nx s i bad = some 60 → Rdf s .pre .fls (ned s (i + 1) bad 62).1 (ned s (i + 1) bad 62).2 a j c → Rdf s .pre x i bad (.un .dia a) j c
  | par {x i bad a j c} : nx s i bad = some 40 → Rdf s .imp .fls (i + 1) bad a j c → Rdf s .pre x i bad a (ned s j c 41).1 (ned s j c 41).2
  | non {x i bad} : (∀ v, v < 6 → nx s i bad ≠ some (112 + v)) → nx s i bad ≠ some 70 → nx s i bad ≠ some 84 → nx s i bad ≠ some 126 → nx s i bad ≠ some 91 → nx s i bad ≠ some 60 → nx s i bad ≠ some 40 → Rdf s .pre x i bad .fls i true
  | and {x i bad a j c b k d} : Rdf s .pre .fls i bad a j c → Rdf s .andT a j c b k d → Rdf s .and x i bad b k d
  | andS {a i bad} : nx s i bad ≠ some 38 → Rdf s .andT a i bad a i bad
  | andC {a i bad b j c d k e} : nx s i bad = some 38 → Rdf s .pre .fls (i + 1) bad b j c → Rdf s .andT (.bin .and a b) j c d k e → Rdf s .andT a i bad d k e
  | or {x i bad a j c b k d} : Rdf s .and .fls i bad a j c → Rdf s .orT a j c b k d → Rdf s .or x i bad b k d
  | orS {a i bad} : nx s i bad ≠ some 124 → Rdf s .orT a i bad a i bad
  | orC {a i bad b j c d k e} : nx s i bad = some 124 → Rdf s .and .fls (i + 1) bad b j c → Rdf s .orT (.bin .or a b) j c d k e → Rdf s .orT a i bad d k e
  | impC {x i bad a j c b k d} : Rdf s .or .fls i bad a j c → nx s j c = some 62 → Rdf s .imp .fls (j + 1) c b k d → Rdf s .imp x i bad (.bin .imp a b) k d
  | impS {x i bad a j c} : Rdf s .or .fls i bad a j c → nx s j c ≠ some 62 → Rdf s .imp x i bad a j c
theorem Rdf.one {s : ByteArray} {l x i bad a j c} (h : Rdf s l x i bad a j c) : ∀ {a' j' c'}, Rdf s l x i bad a' j' c' → a = a' ∧ j = j' ∧ c = c' := by
  induction h with
  | var h hv =>
    intro a' j' c' h'
    cases h' with
    | var k kv => rw [h] at k; injection k with k; obtain rfl : _ = _ := Nat.add_left_cancel k; exact ⟨rfl, rfl, rfl⟩
    | fls k | tru k | not k _ | box k _ | dia k _ | par k _ => rw [h] at k; injection k with k; omega
    | non k0 k1 k2 k3 k4 k5 k6 => exact absurd h (k0 _ hv)
  | fls h =>
    intro a' j' c' h'
    cases h' with
    | var k kv => rw [h] at k; injection k with k; omega
    | fls k => exact ⟨rfl, rfl, rfl⟩
    | tru k | not k _ | box k _ | dia k _ | par k _ => rw [h] at k; injection k with k; omega
    | non k0 k1 k2 k3 k4 k5 k6 => exact absurd h k1
  | tru h =>
    intro a' j' c' h'
    cases h' with
    | var k kv => rw [h] at k; injection k with k; omega
    | tru k => exact ⟨rfl, rfl, rfl⟩
    | fls k | not k _ | box k _ | dia k _ | par k _ => rw [h] at k; injection k with k; omega
    | non k0 k1 k2 k3 k4 k5 k6 => exact absurd h k2
  | not h _ ih =>
    intro a' j' c' h'
    cases h' with
    | var k kv => rw [h] at k; injection k with k; omega
    | not k hr => obtain ⟨rfl, rfl, rfl⟩ := ih hr; exact ⟨rfl, rfl, rfl⟩
    | fls k | tru k | box k _ | dia k _ | par k _ => rw [h] at k; injection k with k; omega
    | non k0 k1 k2 k3 k4 k5 k6 => exact absurd h k3
  | box h _ ih =>
    intro a' j' c' h'
    cases h' with
    | var k kv => rw [h] at k; injection k with k; omega
    | box k hr => obtain ⟨rfl, rfl, rfl⟩ := ih hr; exact ⟨rfl, rfl, rfl⟩
    | fls k | tru k | not k _ | dia k _ | par k _ => rw [h] at k; injection k with k; omega
    | non k0 k1 k2 k3 k4 k5 k6 => exact absurd h k4
  | dia h _ ih =>
    intro a' j' c' h'
    cases h' with
    | var k kv => rw [h] at k; injection k with k; omega
    | dia k hr => obtain ⟨rfl, rfl, rfl⟩ := ih hr; exact ⟨rfl, rfl, rfl⟩
    | fls k | tru k | not k _ | box k _ | par k _ => rw [h] at k; injection k with k; omega
    | non k0 k1 k2 k3 k4 k5 k6 => exact absurd h k5
  | par h _ ih =>
    intro a' j' c' h'
    cases h' with
    | var k kv => rw [h] at k; injection k with k; omega
    | par k hr => obtain ⟨rfl, rfl, rfl⟩ := ih hr; exact ⟨rfl, rfl, rfl⟩
    | fls k | tru k | not k _ | box k _ | dia k _ => rw [h] at k; injection k with k; omega
    | non k0 k1 k2 k3 k4 k5 k6 => exact absurd h k6
  | non h0 h1 h2 h3 h4 h5 h6 =>
    intro a' j' c' h'
    cases h' with
    | var k kv => exact absurd k (h0 _ kv)
    | fls k => exact absurd k h1
    | tru k => exact absurd k h2
    | not k _ => exact absurd k h3
    | box k _ => exact absurd k h4
    | dia k _ => exact absurd k h5
    | par k _ => exact absurd k h6
    | non k0 k1 k2 k3 k4 k5 k6 => exact ⟨rfl, rfl, rfl⟩
  | and _ _ ih1 ih2 =>
    intro a' j' c' h'
    cases h' with
    | and p q => obtain ⟨rfl, rfl, rfl⟩ := ih1 p; exact ih2 q
  | andS h =>
    intro a' j' c' h'
    cases h' with
    | andS k => exact ⟨rfl, rfl, rfl⟩
    | andC k _ _ => exact absurd k h
  | andC h _ _ ih1 ih2 =>
    intro a' j' c' h'
    cases h' with
    | andS k => exact absurd h k
    | andC k p q => obtain ⟨rfl, rfl, rfl⟩ := ih1 p; exact ih2 q
  | or _ _ ih1 ih2 =>
    intro a' j' c' h'
    cases h' with
    | or p q => obtain ⟨rfl, rfl, rfl⟩ := ih1 p; exact ih2 q
  | orS h =>
    intro a' j' c' h'
    cases h' with
    | orS k => exact ⟨rfl, rfl, rfl⟩
    | orC k _ _ => exact absurd k h
  | orC h _ _ ih1 ih2 =>
    intro a' j' c' h'
    cases h' with
    | orS k => exact absurd h k
    | orC k p q => obtain ⟨rfl, rfl, rfl⟩ := ih1 p; exact ih2 q
  | impC _ h _ ih1 ih2 =>
    intro a' j' c' h'
    cases h' with
    | impC p k q => obtain ⟨rfl, rfl, rfl⟩ := ih1 p; obtain ⟨rfl, rfl, rfl⟩ := ih2 q; exact ⟨rfl, rfl, rfl⟩
    | impS p k => obtain ⟨rfl, rfl, rfl⟩ := ih1 p; exact absurd h k
  | impS _ h ih1 =>
    intro a' j' c' h'
    cases h' with
    | impC p k q => obtain ⟨rfl, rfl, rfl⟩ := ih1 p; exact absurd k h
    | impS p k => exact ih1 p
theorem nx_lt {s : ByteArray} {i b : Nat} {bad : Bool} (h : nx s i bad = some b) : i < s.size ∧ bad = false := by
  unfold nx at h
  cases bad with
  | true => cases h
  | false =>
    refine ⟨?_, rfl⟩
    rw [if_neg (by decide)] at h
    rcases Nat.lt_or_ge i s.size with h1 | h1
    · exact h1
    · rw [Array.getElem?_eq_none (show s.data.size ≤ i from h1)] at h
      cases h
theorem ned_le (s : ByteArray) (i : Nat) (bad : Bool) (b : Nat) : i ≤ (ned s i bad b).1 ∧ (i ≤ s.size → (ned s i bad b).1 ≤ s.size) := by
  unfold ned
  split
  · rename_i h
    have := (nx_lt h).1
    exact ⟨Nat.le_succ _, fun _ => this⟩
  · exact ⟨Nat.le_refl _, id⟩
def tail : Lv → Bool | .orT => true | .andT => true | _ => false
/-- how long a formula is that was read -/
theorem Rdf.len {s : ByteArray} {l x i bad a j c} (h : Rdf s l x i bad a j c) : i ≤ j ∧ (i ≤ s.size → j ≤ s.size) ∧ (enc a).length ≤ (if tail l then (enc x).length else 1) + 3 * (j - i) := by
  induction h with
  | var h hv => have := nx_lt h; exact ⟨by omega, by omega, by simp [enc, tail]⟩
  | fls h => have := nx_lt h; exact ⟨by omega, by omega, by simp [enc, tail]⟩
  | tru h => have := nx_lt h; exact ⟨by omega, by omega, by simp [enc, tail]⟩
  | not h _ ih => have := nx_lt h; simp only [tail] at ih; exact ⟨by omega, fun _ => ih.2.1 (by omega), by simp [enc, tail] at ih ⊢; omega⟩
  | @box _ i bad _ _ _ h _ ih => have := nx_lt h; have := ned_le s (i + 1) bad 93; exact ⟨by omega, fun _ => ih.2.1 (by omega), by simp [enc, tail] at ih ⊢; omega⟩
  | @dia _ i bad _ _ _ h _ ih => have := nx_lt h; have := ned_le s (i + 1) bad 62; exact ⟨by omega, fun _ => ih.2.1 (by omega), by simp [enc, tail] at ih ⊢; omega⟩
  | @par _ i bad _ j c h _ ih => have := nx_lt h; have := ned_le s j c 41; exact ⟨by omega, fun _ => this.2 (ih.2.1 (by omega)), by simp [tail] at ih ⊢; omega⟩
  | non => exact ⟨Nat.le_refl _, id, by simp [enc, tail]⟩
  | and _ _ ih1 ih2 => exact ⟨by omega, fun h => ih2.2.1 (ih1.2.1 h), by simp [tail] at ih1 ih2 ⊢; omega⟩
  | andS h => exact ⟨Nat.le_refl _, id, by simp [tail]⟩
  | andC h _ _ ih1 ih2 => have := nx_lt h; exact ⟨by omega, fun _ => ih2.2.1 (ih1.2.1 (by omega)), by simp [enc, tail] at ih1 ih2 ⊢; omega⟩
  | or _ _ ih1 ih2 => exact ⟨by omega, fun h => ih2.2.1 (ih1.2.1 h), by simp [tail] at ih1 ih2 ⊢; omega⟩
  | orS h => exact ⟨Nat.le_refl _, id, by simp [tail]⟩
  | orC h _ _ ih1 ih2 => have := nx_lt h; exact ⟨by omega, fun _ => ih2.2.1 (ih1.2.1 (by omega)), by simp [enc, tail] at ih1 ih2 ⊢; omega⟩
  | impC _ h _ ih1 ih2 => have := nx_lt h; exact ⟨by omega, fun _ => ih2.2.1 (by omega), by simp [enc, tail] at ih1 ih2 ⊢; omega⟩
  | impS _ h ih1 => exact ⟨ih1.1, ih1.2.1, by simp [tail] at ih1 ⊢; omega⟩
theorem Rdf.good {s : ByteArray} {l x i bad a j c} (h : Rdf s l x i bad a j c) : (tail l = true → x.ok = true) → a.ok = true := by
  induction h with
  | var h hv => intro _; simp [Fm.ok]; omega
  | fls h | tru h | non => intro _; rfl
  | not h _ ih => intro _; have := ih (fun h => by cases h); simp [Fm.ok, this]
  | box h _ ih | dia h _ ih => intro _; have := ih (fun h => by cases h); simp [Fm.ok, this]
  | par h _ ih => intro _; exact ih (fun h => by cases h)
  | and _ _ ih1 ih2 => intro _; exact ih2 (fun _ => ih1 (fun h => by cases h))
  | andS h => intro k; exact k rfl
  | andC h _ _ ih1 ih2 => intro k; exact ih2 (fun _ => by have := ih1 (fun h => by cases h); simp [Fm.ok, this, k rfl])
  | or _ _ ih1 ih2 => intro _; exact ih2 (fun _ => ih1 (fun h => by cases h))
  | orS h => intro k; exact k rfl
  | orC h _ _ ih1 ih2 => intro k; exact ih2 (fun _ => by have := ih1 (fun h => by cases h); simp [Fm.ok, this, k rfl])
  | impC _ h _ ih1 ih2 => intro _; have h1 := ih1 (fun h => by cases h); have h2 := ih2 (fun h => by cases h); simp [Fm.ok, h1, h2]
  | impS _ h ih1 => intro _; exact ih1 (fun h => by cases h)
/-- how much a reader has left -/
def mz (s : ByteArray) (i : Nat) (bad : Bool) : Nat := if bad then 0 else s.size - i
theorem nx_mz {s : ByteArray} {i b n : Nat} {bad : Bool} (h : nx s i bad = some b) (hm : mz s i bad ≤ n) : mz s (i + 1) bad < n := by
  obtain ⟨h1, rfl⟩ := nx_lt h
  unfold mz at *
  simp at *
  omega
theorem ned_mz (s : ByteArray) (i : Nat) (bad : Bool) (b : Nat) : mz s (ned s i bad b).1 (ned s i bad b).2 ≤ mz s i bad := by
  unfold ned mz
  split
  · cases bad <;> simp <;> omega
  · simp
theorem ned_bad {s : ByteArray} {i b : Nat} {bad : Bool} (h : (ned s i bad b).2 = false) : bad = false := by
  unfold ned at h
  split at h
  · exact h
  · cases h
theorem Rdf.bad {s : ByteArray} {l x i bad a j c} (h : Rdf s l x i bad a j c) : c = false → bad = false := by
  induction h with
  | var h hv | fls h | tru h => exact id
  | not _ _ ih => exact ih
  | box _ _ ih | dia _ _ ih => exact fun k => ned_bad (ih k)
  | par _ _ ih => exact fun k => ih (ned_bad k)
  | non => intro k; cases k
  | and _ _ ih1 ih2 | andC _ _ _ ih1 ih2 | or _ _ ih1 ih2 | orC _ _ _ ih1 ih2 => exact fun k => ih1 (ih2 k)
  | andS _ | orS _ => exact id
  | impC _ _ _ ih1 ih2 => exact fun k => ih1 (ih2 k)
  | impS _ _ ih => exact ih
theorem Rdf.mz {s : ByteArray} {l x i bad a j c} (h : Rdf s l x i bad a j c) : mz s j c ≤ mz s i bad := by
  have h1 := h.len.1
  have h2 := h.bad
  unfold Go.Proofs.Ytebpjcbgnagjeaa.mz
  cases c with
  | true => simp
  | false => rw [h2 rfl]; simp; omega
theorem Rdf.len1 {s : ByteArray} {i bad a j c} {l : Lv} (h : Rdf s l .fls i bad a j c) (ht : Go.Proofs.Ytebpjcbgnagjeaa.tail l = false) : (enc a).length ≤ 1 + 3 * (j - i) := by
  have := h.len.2.2
  rw [ht] at this
  simpa using this
end Go.Proofs.Ytebpjcbgnagjeaa

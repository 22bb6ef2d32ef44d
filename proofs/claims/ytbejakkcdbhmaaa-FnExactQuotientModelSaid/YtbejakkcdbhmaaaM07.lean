/- Plain words of chapter 7: bisimulations. No program in sight. -/
import Derived.Test.Ytbejakkcdbhmaaa05h
import Derived.Test.Ytbejakkcdbhmaaa05g
namespace Go.Proofs.Ytbejakkcdbhmaaa
open Go.RowKit
set_option linter.unusedVariables false
set_option linter.unusedSimpArgs false
/-- a frame with six values -/
structure MdN (ns us : List Nat) : Prop where
  r : RelN ns
  l : us.length = 6
  b : ∀ x ∈ us, x < 2 ^ ns.length
theorem MdN.u256 {ns us : List Nat} (h : MdN ns us) (i : Nat) : us.getD i 0 < 256 := Nat.lt_of_lt_of_le (getD_lt h.b i) (two_pow_256 h.r.1)
theorem MdN.n256 {ns us : List Nat} (h : MdN ns us) (i : Nat) : ns.getD i 0 < 256 := Nat.lt_of_lt_of_le (getD_lt h.r.2 i) (two_pow_256 h.r.1)
/-- the variables that are true at a world -/
def tru (us : List Nat) (x : Nat) : Nat := msk (fun v => (us.getD v 0).testBit x) 6
def atm (us ts : List Nat) (x y : Nat) : Bool := (List.range 6).all fun v => (us.getD v 0).testBit x == (ts.getD v 0).testBit y
theorem atm_tru (us ts : List Nat) (x y : Nat) : atm us ts x y = decide (tru us x = tru ts y) := by
  rw [Bool.eq_iff_iff, decide_eq_true_eq]
  unfold atm
  rw [List.all_eq_true]
  constructor
  · intro h
    exact msk_congr _ _ 6 fun i hi => by simpa using h i (List.mem_range.2 hi)
  · intro h v hv
    have := congrArg (fun n => n.testBit v) h
    rw [List.mem_range] at hv
    simp only [tru, msk_testBit, hv, decide_true, Bool.true_and] at this
    simpa using this
/-- each member of a mask is linked to a member of another one -/
def frt (lk : List Nat) (a b : Nat) : Bool := (List.range lk.length).all fun s => !(a.testBit s && decide (lk.getD s 0 &&& b = 0))
def bck (lk : List Nat) (a b : Nat) : Bool := decide (andnot b (img lk a) = 0)
theorem mems_iff {m : Nat} {x : Int} : x ∈ mems m ↔ ∃ i : Nat, i < 64 ∧ m.testBit i = true ∧ x = i := by
  unfold mems memsTo
  rw [List.mem_map]
  constructor
  · rintro ⟨i, hi, rfl⟩
    rw [List.mem_filter, List.mem_range] at hi
    exact ⟨i, hi.1, hi.2, rfl⟩
  · rintro ⟨i, h1, h2, rfl⟩
    exact ⟨i, List.mem_filter.2 ⟨List.mem_range.2 h1, h2⟩, rfl⟩
theorem bit_lt {m n i : Nat} (hm : m < 2 ^ n) (h : m.testBit i = true) : i < n := by
  rcases Nat.lt_or_ge i n with h1 | h1
  · exact h1
  · rw [Nat.testBit_lt_two_pow (Nat.lt_of_lt_of_le hm (Nat.pow_le_pow_right (by decide) h1))] at h; cases h
theorem frt_mems (lk : List Nat) (a b : Nat) (ha : a < 2 ^ lk.length) (h8 : lk.length ≤ 8) : frt lk a b = (mems a).all fun x => !decide (lk.getD x.toNat 0 &&& b = 0) := by
  rw [Bool.eq_iff_iff]
  unfold frt
  rw [List.all_eq_true, List.all_eq_true]
  constructor
  · intro h x hx
    obtain ⟨i, h1, h2, rfl⟩ := mems_iff.1 hx
    have := h i (List.mem_range.2 (bit_lt ha h2))
    rw [h2, Bool.true_and] at this
    rw [Int.toNat_natCast]
    exact this
  · intro h s hs
    rw [List.mem_range] at hs
    cases hb : a.testBit s
    · rfl
    · have := h s (mems_iff.2 ⟨s, by omega, hb, rfl⟩)
      rw [Int.toNat_natCast] at this
      rw [Bool.true_and]
      exact this
def orL (lk : List Nat) : List Int → Nat
  | [] => 0
  | x :: t => orL lk t ||| lk.getD x.toNat 0
theorem orL_bit (lk : List Nat) (l : List Int) (b : Nat) : (orL lk l).testBit b = true ↔ ∃ x ∈ l, (lk.getD x.toNat 0).testBit b = true := by
  induction l with
  | nil => simp [orL]
  | cons x t ih =>
    rw [orL, Nat.testBit_or, Bool.or_eq_true, ih]
    simp [or_comm]
theorem orL_lt {lk : List Nat} {n : Nat} (h : ∀ x ∈ lk, x < 2 ^ n) (l : List Int) : orL lk l < 2 ^ n := by
  induction l with
  | nil => exact Nat.pow_pos (by decide)
  | cons x t ih => exact Nat.or_lt_two_pow ih (getD_lt h _)
theorem orL_snoc (lk : List Nat) (l : List Int) (x : Int) : orL lk (l ++ [x]) = orL lk l ||| lk.getD x.toNat 0 := by
  apply Nat.eq_of_testBit_eq
  intro b
  rw [Bool.eq_iff_iff, Nat.testBit_or, Bool.or_eq_true, orL_bit, orL_bit]
  simp [or_and_right, exists_or]
theorem orL_img (lk : List Nat) (m : Nat) (hm : m < 2 ^ lk.length) (h8 : lk.length ≤ 8) : orL lk (mems m) = img lk m := by
  apply Nat.eq_of_testBit_eq
  intro b
  unfold img
  rw [Bool.eq_iff_iff, orL_bit, imgTo_bit]
  constructor
  · rintro ⟨x, hx, hb⟩
    obtain ⟨i, h1, h2, rfl⟩ := mems_iff.1 hx
    rw [Int.toNat_natCast] at hb
    exact ⟨i, bit_lt hm h2, h2, hb⟩
  · rintro ⟨i, h1, h2, h3⟩
    exact ⟨i, mems_iff.2 ⟨i, by omega, h2, rfl⟩, by rw [Int.toNat_natCast]; exact h3⟩
/-- the link of the worlds for which a condition holds -/
def lnk (n k : Nat) (p : Nat → Nat → Bool) : List Nat := (List.range n).map fun x => msk (p x) k
theorem lnk_length (n k : Nat) (p : Nat → Nat → Bool) : (lnk n k p).length = n := by simp [lnk]
theorem lnk_lt (n k : Nat) (p : Nat → Nat → Bool) : ∀ x ∈ lnk n k p, x < 2 ^ k := by
  intro x hx
  unfold lnk at hx
  rw [List.mem_map] at hx
  obtain ⟨i, -, rfl⟩ := hx
  exact msk_lt _ _
theorem lnk_getD {n k x : Nat} (p : Nat → Nat → Bool) (h : x < n) : (lnk n k p).getD x 0 = msk (p x) k := by
  unfold lnk
  rw [List.getD_eq_getElem?_getD, List.getElem?_map, List.getElem?_range h]
  rfl
def hol (ns us ks ts lk : List Nat) (x y : Nat) : Bool := atm us ts x y && (frt lk (ns.getD x 0) (ks.getD y 0) && bck lk (ns.getD x 0) (ks.getD y 0))
/-- the links of the worlds that are bisimilar in so many rounds -/
def bnd (ns us ks ts : List Nat) : Nat → List Nat
  | 0 => lnk ns.length ks.length (atm us ts)
  | k + 1 => lnk ns.length ks.length (hol ns us ks ts (bnd ns us ks ts k))
theorem bnd_length (ns us ks ts : List Nat) (k : Nat) : (bnd ns us ks ts k).length = ns.length := by
  cases k <;> exact lnk_length _ _ _
theorem bnd_lt (ns us ks ts : List Nat) (k : Nat) : ∀ x ∈ bnd ns us ks ts k, x < 2 ^ ks.length := by
  cases k <;> exact lnk_lt _ _ _
theorem lnk_congr {n k : Nat} {p q : Nat → Nat → Bool} (h : ∀ x < n, ∀ y < k, p x y = q x y) : lnk n k p = lnk n k q := by
  unfold lnk
  refine List.map_congr_left fun x hx => ?_
  exact msk_congr _ _ _ fun y hy => h x (List.mem_range.1 hx) y hy
end Go.Proofs.Ytbejakkcdbhmaaa

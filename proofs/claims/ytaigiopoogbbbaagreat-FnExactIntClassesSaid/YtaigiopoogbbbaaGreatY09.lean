/- Joined of several texts. -/
import Derived.Test.YtaigiopoogbbbaaGreatY02
import Derived.Test.YtaigiopoogbbbaaGreatY08
import Derived.Deep.RegionWith
namespace Go.Proofs.YtaigiopoogbbbaaGreat
/- Joined of several texts: M05, 05a, 05b. -/
open Go.RowKit
set_option linter.unusedVariables false
set_option linter.unusedSimpArgs false
/- Plain words of chapters 5 and 6: masks, relations, frames, models, truth. No program in sight. -/
/-- a list of naturals as int64s -/
def li (ns : List Nat) : List Int := ns.map fun (i : Nat) => (i : Int)
theorem li_length (ns : List Nat) : (li ns).length = ns.length := by simp [li]
theorem li_get (ns : List Nat) (i : Nat) (h : i < (li ns).length) : (li ns)[i] = ((ns.getD i 0 : Nat) : Int) := by
  have h' : i < ns.length := by simpa [li] using h
  simp [li, h']
theorem li_of {xs : List Int} (h : ∀ x ∈ xs, 0 ≤ x) : xs = li (xs.map Int.toNat) := by
  induction xs with
  | nil => rfl
  | cons x t ih =>
    have h1 := h x List.mem_cons_self
    have h2 := ih fun y hy => h y (List.mem_cons_of_mem _ hy)
    show x :: t = ((x.toNat : Nat) : Int) :: li (t.map Int.toNat)
    rw [← h2, Int.toNat_of_nonneg h1]
/-- is m a mask of n elements? -/
def mkOk (n m : Int) : Bool := inR n 0 30 && inR m 0 (2 ^ n.toNat - 1)
theorem mkOk_small {n m : Int} (h : 0 ≤ n ∧ n ≤ 8) : mkOk n m = inR m 0 (2 ^ n.toNat - 1) := by
  unfold mkOk
  rw [inR_true h.1 (by omega), Bool.true_and]
theorem mkOk_nat {n : Nat} {m : Int} (h : mkOk n m = true) : 0 ≤ m ∧ m.toNat < 2 ^ n := by
  unfold mkOk at h
  rw [Bool.and_eq_true, inR_iff, inR_iff] at h
  obtain ⟨_, h1, h2⟩ := h
  refine ⟨h1, ?_⟩
  rw [Int.toNat_natCast] at h2
  have h3 : (2 : Int) ^ n = ((2 ^ n : Nat) : Int) := by rw [Int.natCast_pow]; rfl
  rw [h3] at h2
  have : 0 < 2 ^ n := Nat.pow_pos (by decide)
  omega
def relOk (xs : List Int) : Bool := xs.all fun m => mkOk xs.length m
def frOk (n : Int) (xs : List Int) : Bool := inR n 0 8 && (decide ((xs.length : Int) = n) && relOk xs)
def mdOk (n : Int) (xs vs : List Int) : Bool := frOk n xs && (decide (vs.length = 6) && vs.all fun m => mkOk n m)
/-- a relation of naturals -/
def RelN (ns : List Nat) : Prop := ns.length ≤ 8 ∧ ∀ x ∈ ns, x < 2 ^ ns.length
theorem frOk_iff {n : Int} {xs : List Int} (h : frOk n xs = true) : ∃ ns : List Nat, xs = li ns ∧ n = ns.length ∧ RelN ns := by
  unfold frOk at h
  simp only [Bool.and_eq_true, decide_eq_true_eq] at h
  obtain ⟨h1, h2, h3⟩ := h
  have h1 := inR_iff.1 h1
  unfold relOk at h3
  rw [List.all_eq_true] at h3
  have hx := fun x hx => mkOk_nat (h3 x hx)
  refine ⟨xs.map Int.toNat, li_of fun x h => (hx x h).1, by simp [h2], by simp; omega, fun y hy => ?_⟩
  rw [List.mem_map] at hy
  obtain ⟨x, hxm, rfl⟩ := hy
  rw [List.length_map]
  exact (hx x hxm).2
theorem mdOk_iff {n : Int} {xs vs : List Int} (h : mdOk n xs vs = true) : ∃ ns us : List Nat, xs = li ns ∧ vs = li us ∧ n = ns.length ∧ RelN ns ∧ us.length = 6 ∧ ∀ x ∈ us, x < 2 ^ ns.length := by
  unfold mdOk at h
  simp only [Bool.and_eq_true, decide_eq_true_eq] at h
  obtain ⟨h1, h2, h3⟩ := h
  obtain ⟨ns, rfl, rfl, hr⟩ := frOk_iff h1
  rw [List.all_eq_true] at h3
  have hx := fun x hx => mkOk_nat (h3 x hx)
  refine ⟨ns, vs.map Int.toNat, rfl, li_of fun x h => (hx x h).1, rfl, hr, by simpa using h2, fun y hy => ?_⟩
  rw [List.mem_map] at hy
  obtain ⟨x, hxm, rfl⟩ := hy
  exact (hx x hxm).2
/-- the elements that are related to members of a mask alone -/
def bx (ns : List Nat) (m : Nat) : Nat := msk (fun i => decide (andnot (ns.getD i 0) m = 0)) ns.length
theorem bx_lt (ns : List Nat) (m : Nat) : bx ns m < 2 ^ ns.length := msk_lt _ _
theorem and_eq_iff (a m : Nat) : (a &&& m = a) ↔ andnot a m = 0 := by
  constructor
  · intro h; unfold andnot; rw [h, Nat.xor_self]
  · intro h
    apply Nat.eq_of_testBit_eq
    intro i
    have := congrArg (fun n => n.testBit i) h
    simp only [andnot_testBit, Nat.zero_testBit] at this
    rw [Nat.testBit_and]
    cases ha : a.testBit i
    · rfl
    · rw [ha] at this
      cases hm : m.testBit i
      · rw [hm] at this; exact absurd this (by decide)
      · rfl
/-- the worlds at which a formula is true -/
def tv (ns us : List Nat) : Fm → Nat
  | .var s => us.getD s 0
  | .fls => 0
  | .bin .and a b => tv ns us a &&& tv ns us b
  | .bin .or a b => tv ns us a ||| tv ns us b
  | .bin .imp a b => andnot (2 ^ ns.length - 1) (tv ns us a) ||| tv ns us b
  | .un .box a => bx ns (tv ns us a)
  | .un .dia a => andnot (2 ^ ns.length - 1) (bx ns (andnot (2 ^ ns.length - 1) (tv ns us a)))
theorem andnot_lt {a b k : Nat} (h : a < 2 ^ k) : andnot a b < 2 ^ k := by
  unfold andnot
  exact Nat.xor_lt_two_pow h (Nat.lt_of_le_of_lt (Nat.and_le_left (n := a) (m := b)) h)
theorem full_lt (k : Nat) : 2 ^ k - 1 < 2 ^ k := Nat.sub_lt (Nat.pow_pos (by decide)) (by decide)
theorem getD_lt {us : List Nat} {k : Nat} (h : ∀ x ∈ us, x < 2 ^ k) (i : Nat) : us.getD i 0 < 2 ^ k := by
  rw [List.getD_eq_getElem?_getD]
  rcases Nat.lt_or_ge i us.length with hi | hi
  · rw [List.getElem?_eq_getElem hi]; exact h _ (List.getElem_mem hi)
  · rw [List.getElem?_eq_none hi]; exact Nat.pow_pos (by decide)
theorem tv_lt (ns us : List Nat) (h : ∀ x ∈ us, x < 2 ^ ns.length) (f : Fm) : tv ns us f < 2 ^ ns.length := by
  induction f with
  | var s => exact getD_lt h s
  | fls => exact Nat.pow_pos (by decide)
  | bin k a b iha ihb =>
    cases k
    · exact Nat.and_lt_two_pow _ ihb
    · exact Nat.or_lt_two_pow iha ihb
    · exact Nat.or_lt_two_pow (andnot_lt (full_lt _)) ihb
  | un k a ih =>
    cases k
    · exact bx_lt _ _
    · exact andnot_lt (full_lt _)
theorem two_pow_256 {k : Nat} (h : k ≤ 8) : 2 ^ k ≤ 256 := Nat.pow_le_pow_right (n := 2) (by decide) h
/- Contracts of chapters 1, 5 and 6: masks, relations, frames, models. -/
/- Contracts of chapters 1, 5 and 6: models, boxes, of the program and of the reference. -/
theorem msk_bound (p : Nat → Bool) {k n : Nat} (h : k ≤ n) (hn : n ≤ 8) : msk p k < 256 :=
  Nat.lt_of_lt_of_le (msk_lt p k) (Nat.le_trans (Nat.pow_le_pow_right (by decide) h) (two_pow_256 hn))
/- Contracts of chapter 6: the stack of truthSet, of the program. -/
open Go.RowKit
set_option linter.unusedVariables false
set_option linter.unusedSimpArgs false
theorem li_append (xs ys : List Nat) : li (xs ++ ys) = li xs ++ li ys := by simp [li]
/-- the formulas whose nodes stand from an index on -/
def stepD : List Fm → List Fm
  | [] => []
  | g :: rest => kids g ++ rest
def dc (f : Fm) : Nat → List Fm
  | 0 => [f]
  | j + 1 => stepD (dc f j)
theorem enc_step (g : Fm) (rest : List Fm) : ∃ x : Nd, enc g ++ rest.flatMap enc = x :: (kids g ++ rest).flatMap enc ∧ (match g with | .var s => x = (0, (s : Int)) | .fls => x = (1, 0) | .bin k _ _ => x = (k.i, 0) | .un k _ => x = (k.i, 0)) := by
  cases g with
  | var s => exact ⟨_, by simp [enc, kids], rfl⟩
  | fls => exact ⟨_, by simp [enc, kids], rfl⟩
  | bin k a b => exact ⟨_, by simp [enc, kids], rfl⟩
  | un k a => exact ⟨_, by simp [enc, kids], rfl⟩
theorem dc_drop (f : Fm) (j : Nat) (h : j ≤ (enc f).length) : (enc f).drop j = (dc f j).flatMap enc := by
  induction j with
  | zero => simp [dc]
  | succ j ih =>
    have h1 := ih (by omega)
    have hlt : j < (enc f).length := by omega
    rw [List.drop_eq_getElem_cons hlt] at h1
    cases hd : dc f j with
    | nil => rw [hd] at h1; cases h1
    | cons g rest =>
      rw [hd, List.flatMap_cons] at h1
      obtain ⟨x, hx, _⟩ := enc_step g rest
      rw [hx] at h1
      show _ = (stepD (dc f j)).flatMap enc
      rw [hd]
      exact (List.cons.inj h1).2
theorem flatMap_enc_length (fs : List Fm) : fs.length ≤ (fs.flatMap enc).length := by
  induction fs with
  | nil => simp
  | cons g t ih => have := enc_pos g; rw [List.flatMap_cons, List.length_append, List.length_cons]; omega
theorem dc_length (f : Fm) (j : Nat) (h : j ≤ (enc f).length) : (dc f j).length ≤ (enc f).length := by
  have h1 := flatMap_enc_length (dc f j)
  rw [← dc_drop f j h, List.length_drop] at h1
  omega
/-- the node at an index, and the formulas from it on -/
theorem dc_at (f : Fm) (j : Nat) (h : j < (enc f).length) : ∃ (g : Fm) (rest : List Fm), dc f j = g :: rest ∧ dc f (j + 1) = kids g ++ rest ∧ (match g with | .var s => (enc f)[j] = (0, (s : Int)) | .fls => (enc f)[j] = (1, 0) | .bin k _ _ => (enc f)[j] = (k.i, 0) | .un k _ => (enc f)[j] = (k.i, 0)) := by
  have h1 := dc_drop f j (by omega)
  rw [List.drop_eq_getElem_cons h] at h1
  cases hd : dc f j with
  | nil => rw [hd] at h1; cases h1
  | cons g rest =>
    rw [hd, List.flatMap_cons] at h1
    obtain ⟨x, hx, hm⟩ := enc_step g rest
    rw [hx] at h1
    have hxe := (List.cons.inj h1).1
    refine ⟨g, rest, rfl, by show stepD (dc f j) = _; rw [hd]; rfl, ?_⟩
    rw [hxe]
    exact hm
/-- what stands on the stack when the nodes from an index on are done -/
def stk (ns us : List Nat) (fs : List Fm) : List Nat := (fs.map (tv ns us)).reverse
theorem stk_cons (ns us : List Nat) (g : Fm) (fs : List Fm) : stk ns us (g :: fs) = stk ns us fs ++ [tv ns us g] := by simp [stk]
theorem stk_length (ns us : List Nat) (fs : List Fm) : (stk ns us fs).length = fs.length := by simp [stk]
end Go.Proofs.YtaigiopoogbbbaaGreat

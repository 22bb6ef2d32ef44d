/- Joined of several texts: 03v, 03w, 03x, 03y, 03z, 03f, 03h, 03k, 33n. -/
import Derived.Test.YtnolbgdbboiehaaB5
import Derived.Test.YtnolbgdbboiehaaB4
import Derived.Test.YtnolbgdbboiehaaB3
namespace Go.Proofs.Ytnolbgdbboiehaa
open Go.RowKit
set_option linter.unusedVariables false
set_option linter.unusedSimpArgs false
/- Contracts of what FormulaOfTrace joins with: l02True, l02Own, truth, l02All. -/
/-- the formula that joins all, by an operation -/
def joinL (op : Int) (xss : List (List Nd)) : List Nd := List.replicate (xss.length - 1) (op, 0) ++ xss.flatten
theorem joinL_one (op : Int) {xss : List (List Nd)} (h : 0 < xss.length) : joinL op (xss.take 1) = xss[0] := by
  cases xss with
  | nil => simp at h
  | cons x t => simp [joinL]
theorem joinL_succ (op : Int) {xss : List (List Nd)} {j : Nat} (h : j < xss.length) (hj : 0 < j) : joinL op (xss.take (j + 1)) = [(op, 0)] ++ joinL op (xss.take j) ++ xss[j] := by
  obtain ⟨i, rfl⟩ : ∃ i, j = i + 1 := ⟨j - 1, by omega⟩
  unfold joinL
  rw [flat_take_succ xss h, List.length_take, List.length_take, Nat.min_eq_left (by omega), Nat.min_eq_left (by omega)]
  simp [List.replicate_succ]
theorem joinL_length (op : Int) (xss : List (List Nd)) : (joinL op xss).length = xss.length - 1 + xss.flatten.length := by simp [joinL]
/- l02All and joinAll at the empty list. -/
def joinE (op : Int) : List Nd := if op = 2 then [(4, 0), (1, 0), (1, 0)] else [(1, 0)]
/- Contract of the program's formula of a Trace. -/
/-- the part of a rank, and the parts of a Trace -/
def elL (b : Bool) (n : Nat) : List Nd := if b then rankL n else [(4, 0)] ++ rankL n ++ [(1, 0)]
def formL (b : Bool) (xs : List Int) : List (List Nd) := xs.map fun x => elL b x.toNat
theorem formL_succ (b : Bool) {xs : List Int} {j : Nat} (h : j < xs.length) : formL b (xs.take (j + 1)) = formL b (xs.take j) ++ [elL b xs[j].toNat] := by
  unfold formL
  rw [List.take_succ_eq_append_getElem h, List.map_append]
  rfl
theorem elL_length (b : Bool) {n : Nat} (h : n ≤ 60) : (elL b n).length ≤ 200 := by
  have := rankL_length n
  unfold elL
  split
  · omega
  · simp; omega
/-- the list of all joined, by the program's or the reference's way -/
def outL (b : Bool) (xs : List Int) : List Nd := if xs.length = 0 then joinE (if b then 3 else 2) else joinL (if b then 3 else 2) (formL b xs)
/- Contract of the program's formula of a Trace. Written by gen03f.py. -/
theorem formL_flat_le (b : Bool) (xs : List Int) (h : ∀ x ∈ xs, 0 ≤ x ∧ x ≤ 60) : (formL b xs).flatten.length ≤ xs.length * 200 := by
  induction xs with
  | nil => simp [formL]
  | cons x t ih =>
    have h1 := h x List.mem_cons_self
    have h2 := ih (fun y hy => h y (List.mem_cons_of_mem _ hy))
    have h3 := elL_length b (n := x.toNat) (by omega)
    have e : formL b (x :: t) = elL b x.toNat :: formL b t := rfl
    rw [e, List.flatten_cons, List.length_append, List.length_cons]
    omega
theorem formL_length (b : Bool) (xs : List Int) : (formL b xs).length = xs.length := by simp [formL]
/- Contracts of FormulaOfTrace, of the program and of the reference. -/
theorem okT_short' {xs : List Int} (h : okT xs = true) : xs.length ≤ 61 := by
  have key : ∀ i : Nat, i < xs.length → (i : Int) ≤ xs.getD i 0 ∧ xs.getD i 0 ≤ 60 := by
    intro i
    induction i with
    | zero => intro hi; have := okT_at h hi; simp only [goodT, inR, Bool.and_eq_true, decide_eq_true_eq] at this; omega
    | succ k ih =>
      intro hi
      have h1 := ih (by omega)
      have := okT_at h hi
      simp only [goodT, inR, Bool.and_eq_true, Bool.or_eq_true, decide_eq_true_eq, Nat.add_sub_cancel] at this
      omega
  rcases Nat.lt_or_ge 61 xs.length with hq | hq
  · have := key 61 hq; omega
  · exact hq
/- Contracts of LetterlessNormal, of the program and of the reference. -/
theorem trOf_length (p : Nat → Bool) : (trOf p).length ≤ 61 := trTo_length p 61
theorem trOf_mem (p : Nat → Bool) : ∀ x ∈ trOf p, 0 ≤ x ∧ x ≤ 60 := by
  intro x hx
  simp only [trOf, trTo, List.mem_map, List.mem_filter, List.mem_range] at hx
  obtain ⟨n, ⟨hn, _⟩, rfl⟩ := hx
  omega
end Go.Proofs.Ytnolbgdbboiehaa

/- Plain words of chapter 7: quotients. No program in sight. -/
import Derived.Test.YtbejakkcdbhmaaaM07c
namespace Go.Proofs.Ytbejakkcdbhmaaa
set_option linter.unusedVariables false
set_option linter.unusedSimpArgs false
/-- the masks of the single numbers of a list -/
def pw (cl : List Nat) : List Nat := cl.map fun c => 2 ^ c
theorem pw_length (cl : List Nat) : (pw cl).length = cl.length := by simp [pw]
theorem pw_getD {cl : List Nat} {i : Nat} (h : i < cl.length) : (pw cl).getD i 0 = 2 ^ cl.getD i 0 := by
  unfold pw
  rw [List.getD_eq_getElem?_getD, List.getElem?_map, List.getD_eq_getElem?_getD, List.getElem?_eq_getElem h]
  rfl
theorem pw_lt {cl : List Nat} {n : Nat} (h : ∀ c ∈ cl, c < n) : ∀ x ∈ pw cl, x < 2 ^ n := by
  intro x hx
  unfold pw at hx
  rw [List.mem_map] at hx
  obtain ⟨c, hc, rfl⟩ := hx
  exact Nat.pow_lt_pow_right (by decide) (h c hc)
/-- the number of the classes -/
def mx (cl : List Nat) : Nat → Nat
  | 0 => 0
  | k + 1 => max (mx cl k) (cl.getD k 0 + 1)
theorem mx_mono (cl : List Nat) (k j : Nat) (h : k ≤ j) : mx cl k ≤ mx cl j := by
  induction j with
  | zero => obtain rfl : k = 0 := by omega
            exact Nat.le_refl _
  | succ j ih =>
    rcases Nat.lt_or_ge k (j + 1) with h1 | h1
    · have := ih (by omega); rw [mx]; omega
    · obtain rfl : k = j + 1 := by omega
      exact Nat.le_refl _
theorem mx_gt (cl : List Nat) {k i : Nat} (h : i < k) : cl.getD i 0 < mx cl k := by
  have := mx_mono cl (i + 1) k h
  rw [mx] at this
  omega
theorem mx_mem (cl : List Nat) : ∀ c ∈ cl, c < mx cl cl.length := by
  intro c hc
  obtain ⟨i, hi, rfl⟩ := List.mem_iff_getElem.1 hc
  have := mx_gt cl hi
  rwa [List.getD_eq_getElem?_getD, List.getElem?_eq_getElem hi] at this
theorem mx_le (cl : List Nat) (n k : Nat) (h : ∀ i, i < k → cl.getD i 0 < n) : mx cl k ≤ n := by
  induction k with
  | zero => exact Nat.zero_le _
  | succ k ih =>
    have h1 := ih fun i hi => h i (by omega)
    have h2 := h k (by omega)
    rw [mx]; omega
theorem getD_mem {cl : List Nat} {i : Nat} (h : i < cl.length) : cl.getD i 0 ∈ cl := by
  rw [List.getD_eq_getElem?_getD, List.getElem?_eq_getElem h]
  exact List.getElem_mem h
/-- one store more: member c of the list gets v besides -/
def qst (o : List Nat) (c v : Nat) : List Nat := o.set c (o.getD c 0 ||| v)
theorem qst_length (o : List Nat) (c v : Nat) : (qst o c v).length = o.length := by simp [qst]
theorem qst_zero (o : List Nat) (c : Nat) : qst o c 0 = o := by
  unfold qst
  rw [Nat.or_zero]
  apply List.ext_getElem? 
  intro i
  rw [List.getElem?_set]
  split
  · rename_i h
    subst h
    split
    · rename_i h; rw [List.getD_eq_getElem?_getD, List.getElem?_eq_getElem h]; rfl
    · rename_i h; rw [List.getElem?_eq_none (by omega)]
  · rfl
theorem qst_qst (o : List Nat) (c u v : Nat) (h : c < o.length) : qst (qst o c u) c v = qst o c (u ||| v) := by
  unfold qst
  rw [List.set_set, getD_set, if_pos ⟨rfl, h⟩, Nat.or_assoc]
theorem qst_lt {o : List Nat} {n : Nat} (h : ∀ x ∈ o, x < 2 ^ n) (c : Nat) {v : Nat} (hv : v < 2 ^ n) : ∀ x ∈ qst o c v, x < 2 ^ n :=
  set_lt h _ _ (Nat.or_lt_two_pow (getD_lt h c) hv)
/-- the relation of n classes, made of the first k rows -/
def qrl (cl a : List Nat) (n : Nat) : Nat → List Nat
  | 0 => List.replicate n 0
  | k + 1 => qst (qrl cl a n k) (cl.getD k 0) (img (pw cl) (a.getD k 0))
theorem qrl_length (cl a : List Nat) (n k : Nat) : (qrl cl a n k).length = n := by
  induction k with
  | zero => simp [qrl]
  | succ k ih => rw [qrl, qst_length, ih]
theorem img_pw_lt {cl : List Nat} {n : Nat} (h : ∀ c ∈ cl, c < n) (m : Nat) : img (pw cl) m < 2 ^ n := imgTo_lt (pw_lt h) _ _
theorem qrl_lt {cl : List Nat} (a : List Nat) {n : Nat} (h : ∀ c ∈ cl, c < n) (k : Nat) : ∀ x ∈ qrl cl a n k, x < 2 ^ n := by
  induction k with
  | zero => intro x hx; rw [qrl] at hx; rw [List.eq_of_mem_replicate hx]; exact Nat.pow_pos (by decide)
  | succ k ih => exact qst_lt ih _ (img_pw_lt h _)
/-- the values of the classes -/
def qvl (cl us : List Nat) : List Nat := us.map fun u => img (pw cl) u
theorem qvl_length (cl us : List Nat) : (qvl cl us).length = us.length := by simp [qvl]
theorem qvl_lt {cl us : List Nat} {n : Nat} (h : ∀ c ∈ cl, c < n) : ∀ x ∈ qvl cl us, x < 2 ^ n := by
  intro x hx
  unfold qvl at hx
  rw [List.mem_map] at hx
  obtain ⟨u, -, rfl⟩ := hx
  exact img_pw_lt h _
/-- the values after x worlds, the first v of them after one world more -/
def qvp (cl us : List Nat) (x v : Nat) : List Nat := (List.range us.length).map fun i => imgTo (pw cl) (us.getD i 0) (if i < v then x + 1 else x)
theorem qvp_length (cl us : List Nat) (x v : Nat) : (qvp cl us x v).length = us.length := by simp [qvp]
theorem qvp_getD (cl us : List Nat) (x v : Nat) {i : Nat} (h : i < us.length) : (qvp cl us x v).getD i 0 = imgTo (pw cl) (us.getD i 0) (if i < v then x + 1 else x) := by
  unfold qvp
  rw [List.getD_eq_getElem?_getD, List.getElem?_map, List.getElem?_range h]
  rfl
theorem qvp_zero (cl us : List Nat) : qvp cl us 0 0 = List.replicate us.length 0 := by
  apply List.ext_getElem (by simp [qvp])
  intro i h1 h2
  simp [qvp, imgTo]
theorem qvp_next (cl us : List Nat) (x : Nat) : qvp cl us x us.length = qvp cl us (x + 1) 0 := by
  unfold qvp
  refine List.map_congr_left fun i hi => ?_
  rw [if_pos (List.mem_range.1 hi), if_neg (by omega)]
theorem qvp_done (cl us : List Nat) : qvp cl us cl.length 0 = qvl cl us := by
  apply List.ext_getElem (by simp [qvp, qvl])
  intro i h1 h2
  simp [qvp, qvl, img, pw_length]
  have hi : i < us.length := by simpa [qvp] using h1
  simp [hi]
theorem qvp_step (cl us : List Nat) (x v : Nat) (hv : v < us.length) (hx : x < cl.length) :
    qvp cl us x (v + 1) = if (us.getD v 0).testBit x then qst (qvp cl us x v) v (2 ^ cl.getD x 0) else qvp cl us x v := by
  have key : ∀ i, i < us.length → (qvp cl us x (v + 1)).getD i 0 = (if (us.getD v 0).testBit x then qst (qvp cl us x v) v (2 ^ cl.getD x 0) else qvp cl us x v).getD i 0 := by
    intro i hi
    rw [qvp_getD cl us x (v + 1) hi]
    by_cases hiv : i = v
    · subst hiv
      rw [if_pos (by omega), imgTo]
      split
      · rw [qst, getD_set, if_pos ⟨rfl, by rw [qvp_length]; exact hi⟩, qvp_getD cl us x i hi, if_neg (by omega), pw_getD hx]
      · rw [qvp_getD cl us x i hi, if_neg (by omega), Nat.or_zero]
    · have e : (if i < v + 1 then x + 1 else x) = (if i < v then x + 1 else x) := by
        by_cases h1 : i < v
        · rw [if_pos h1, if_pos (by omega)]
        · rw [if_neg h1, if_neg (by omega)]
      rw [e]
      by_cases hbt : (us.getD v 0).testBit x = true
      · rw [if_pos hbt, qst, getD_set, if_neg (show ¬ (v = i ∧ v < (qvp cl us x v).length) from fun h => hiv h.1.symm), qvp_getD cl us x v hi]
      · rw [if_neg hbt, qvp_getD cl us x v hi]
  have hl : (qvp cl us x (v + 1)).length = (if (us.getD v 0).testBit x then qst (qvp cl us x v) v (2 ^ cl.getD x 0) else qvp cl us x v).length := by
    split
    · rw [qst_length, qvp_length, qvp_length]
    · rw [qvp_length, qvp_length]
  apply List.ext_getElem hl
  intro i h1 h2
  have := key i (by simpa [qvp] using h1)
  rwa [List.getD_eq_getElem?_getD, List.getD_eq_getElem?_getD, List.getElem?_eq_getElem h1, List.getElem?_eq_getElem h2] at this
theorem imgTo_pw_step {cl : List Nat} (m : Nat) {y : Nat} (hy : y < cl.length) : imgTo (pw cl) m (y + 1) = if m.testBit y then imgTo (pw cl) m y ||| 2 ^ cl.getD y 0 else imgTo (pw cl) m y := by
  rw [imgTo, pw_getD hy]
  split
  · rfl
  · rw [Nat.or_zero]
end Go.Proofs.Ytbejakkcdbhmaaa

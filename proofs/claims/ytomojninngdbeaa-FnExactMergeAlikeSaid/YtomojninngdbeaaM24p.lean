/- Plain words of all partitions in the order the reference makes them. No program in sight. -/
import Derived.Test.YtomojninngdbeaaM24
namespace Go.Proofs.Ytomojninngdbeaa
open Go.RowKit
set_option linter.unusedVariables false
set_option linter.unusedSimpArgs false
def lil (L : List (List Nat)) : List (List Int) := L.map li
theorem lil_length (L : List (List Nat)) : (lil L).length = L.length := by simp [lil]
theorem lil_get (L : List (List Nat)) (i : Nat) (h : i < (lil L).length) : (lil L)[i] = li (L[i]'(by rwa [lil_length] at h)) := by simp [lil]
theorem lil_snoc (L : List (List Nat)) (l : List Nat) : lil (L ++ [l]) = lil L ++ [li l] := by simp [lil]
theorem li_snoc (l : List Nat) (v : Nat) : li (l ++ [v]) = li l ++ [(v : Int)] := by simp [li]
def pgr (l : List Nat) (k : Nat) : List (List Nat) := (List.range k).map fun v => l ++ [v]
theorem pgr_succ (l : List Nat) (k : Nat) : pgr l (k + 1) = pgr l k ++ [l ++ [k]] := by
  unfold pgr
  rw [List.range_succ, List.map_append]
  rfl
theorem pgr_length (l : List Nat) (k : Nat) : (pgr l k).length = k := by simp [pgr]
/-- the partitions made of the first i of the shorter ones -/
def pst (x i : Nat) : List (List Nat) := ((prt x).take i).flatMap fun l => pgr l (mx l l.length + 1)
theorem pst_zero (x : Nat) : pst x 0 = [] := by simp [pst]
theorem pst_succ {x i : Nat} (h : i < (prt x).length) : pst x (i + 1) = pst x i ++ pgr (prt x)[i] (mx (prt x)[i] (prt x)[i].length + 1) := by
  unfold pst
  rw [List.take_succ_eq_append_getElem h, List.flatMap_append, List.flatMap_singleton]
theorem pst_full (x : Nat) : pst x (prt x).length = prt (x + 1) := by
  unfold pst
  rw [List.take_length]
  rfl
theorem prt_small : ∀ x, x < 7 → (prt x).length ≤ 203 ∧ ∀ l ∈ prt x, l.length = x ∧ (∀ c ∈ l, c < 8) ∧ mx l l.length ≤ x := by decide +kernel
theorem pst_mono (x i j : Nat) (h : i ≤ j) : (pst x i).length ≤ (pst x j).length := by
  obtain ⟨d, rfl⟩ : ∃ d, j = i + d := ⟨j - i, by omega⟩
  unfold pst
  rw [List.take_add, List.flatMap_append, List.length_append]
  exact Nat.le_add_right _ _
theorem pst_len {x i : Nat} (hx : x < 6) (hi : i ≤ (prt x).length) : (pst x i).length ≤ 203 := by
  have h1 := pst_mono x i (prt x).length hi
  rw [pst_full] at h1
  exact Nat.le_trans h1 (prt_small (x + 1) (by omega)).1
/-- the correct ones of the first i -/
def cpt (ns : List Nat) (i : Nat) : List (List Nat) := ((prt ns.length).take i).filter (cor ns)
theorem cpt_zero (ns : List Nat) : cpt ns 0 = [] := by simp [cpt]
theorem cpt_succ {ns : List Nat} {i : Nat} (h : i < (prt ns.length).length) : cpt ns (i + 1) = if cor ns (prt ns.length)[i] = true then cpt ns i ++ [(prt ns.length)[i]] else cpt ns i := by
  unfold cpt
  rw [List.take_succ_eq_append_getElem h, List.filter_append]
  split
  · rename_i hc; rw [List.filter_cons_of_pos hc, List.filter_nil]
  · rename_i hc; rw [List.filter_cons_of_neg hc, List.filter_nil, List.append_nil]
theorem cpt_full (ns : List Nat) : cpt ns (prt ns.length).length = cps ns := by
  unfold cpt
  rw [List.take_length]
  rfl
theorem cpt_len (ns : List Nat) (i : Nat) : (cpt ns i).length ≤ (prt ns.length).length := by
  unfold cpt
  refine Nat.le_trans (List.length_filter_le _ _) ?_
  rw [List.length_take]
  exact Nat.min_le_right _ _
theorem cps_ok {ns : List Nat} (h : ns.length < 7) : ∀ l ∈ cps ns, l.length = ns.length ∧ (∀ c ∈ l, c < 8) ∧ mx l l.length ≤ ns.length := fun l hl => (prt_small ns.length h).2 l (List.mem_filter.1 hl).1
theorem cps_len {ns : List Nat} (h : ns.length < 7) : (cps ns).length ≤ 203 := by
  have := cpt_len ns (prt ns.length).length
  rw [cpt_full] at this
  exact Nat.le_trans this (prt_small ns.length h).1
theorem cps_pos (ns : List Nat) : 0 < (cps ns).length := by
  obtain ⟨L, h⟩ := cps_last ns
  rw [h]; simp
theorem cps_end (ns : List Nat) (h : (cps ns).length - 1 < (cps ns).length) : (cps ns)[(cps ns).length - 1] = List.range ns.length := by
  obtain ⟨L, e⟩ := cps_last ns
  have h2 : (cps ns)[(cps ns).length - 1]? = some (List.range ns.length) := by
    rw [e]; simp
  rw [List.getElem?_eq_getElem h] at h2
  injection h2
theorem bst_succ (us b : List Nat) {L : List (List Nat)} {i : Nat} (h : i < L.length) : bst us (L.take (i + 1)) b = bst1 us (bst us (L.take i) b) L[i] := by
  unfold bst
  rw [List.take_succ_eq_append_getElem h, List.foldl_append]
  rfl
theorem bst_mem (us : List Nat) (L : List (List Nat)) (b : List Nat) (hb : b ∈ L) (i : Nat) : bst us (L.take i) b ∈ L := by
  rcases (bst_spec us (L.take i) b).1 with h | h
  · rw [h]; exact hb
  · exact List.mem_of_mem_take h.1
theorem qpf_len (ns l : List Nat) (x : Nat) : (qpf ns l x).length ≤ x := by
  induction x with
  | zero => exact Nat.le_refl _
  | succ x ih =>
    rw [qpf]
    split
    · rw [List.length_append, List.length_singleton]; omega
    · omega
end Go.Proofs.Ytomojninngdbeaa

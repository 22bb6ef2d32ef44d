/- Plain words of chapter 7: the search of a telling formula, by indices. No program in sight. -/
import Derived.Test.Ytgdmfihnbbgcoaa07E
namespace Go.Proofs.Ytgdmfihnbbgcoaa
set_option linter.unusedVariables false
set_option linter.unusedSimpArgs false
theorem mn_range {m K : Nat} (h : m < 2 ^ K) (hK : K ≤ 64) : mn m = (List.range K).filter m.testBit := by
  unfold mn
  obtain ⟨d, hd⟩ : ∃ d, 64 = K + d := ⟨64 - K, by omega⟩
  rw [hd, List.range_add, List.filter_append]
  have : ((List.range d).map (K + ·)).filter m.testBit = [] := by
    rw [List.filter_eq_nil_iff]
    intro a ha
    obtain ⟨i, -, rfl⟩ := List.mem_map.1 ha
    rw [Nat.testBit_lt_two_pow (Nat.lt_of_lt_of_le h (Nat.pow_le_pow_right (by decide) (by omega)))]
    decide
  rw [this, List.append_nil]
/-- what is picked among the first j -/
def pkd {α : Type} (b : Nat) (f : Nat → α) (j : Nat) : List α := ((List.range j).filter b.testBit).map f
theorem pkd_succ {α : Type} (b : Nat) (f : Nat → α) (j : Nat) : pkd b f (j + 1) = if b.testBit j then pkd b f j ++ [f j] else pkd b f j := by
  unfold pkd
  rw [List.range_succ, List.filter_append]
  split
  · rename_i h; simp [h]
  · rename_i h; simp [h]
theorem pkd_end {α : Type} {b K : Nat} (f : Nat → α) (h : b < 2 ^ K) (hK : K ≤ 64) : pkd b f K = (mn b).map f := by
  unfold pkd; rw [mn_range h hK]
theorem lon_find {ns ks lk : List Nat} {x y : Nat} (h : ns.getD x 0 < 2 ^ ns.length) (hK : ns.length ≤ 64) :
    lonW ns ks lk x y = (List.range ns.length).find? fun s => (ns.getD x 0).testBit s && decide (lk.getD s 0 &&& ks.getD y 0 = 0) := by
  unfold lonW
  rw [mn_range h hK, List.find?_filter]
  congr 1
  funext s
  simp
theorem miss_find {ns ks lk : List Nat} {x y : Nat} (h : ks.getD y 0 < 2 ^ ks.length) (hK : ks.length ≤ 64) :
    miss ns ks lk x y = (List.range ks.length).find? fun j => (ks.getD y 0).testBit j && !(img lk (ns.getD x 0)).testBit j := by
  unfold miss
  rw [mn_range h hK, List.find?_filter]
  congr 1
  funext s
  simp
theorem colm_img {lk : List Nat} {a j : Nat} (ha : a < 2 ^ lk.length) : decide (colm lk j &&& a = 0) = !(img lk a).testBit j := by
  rw [Bool.eq_iff_iff, decide_eq_true_eq, Bool.not_eq_true']
  constructor
  · intro h
    cases hb : (img lk a).testBit j
    · rfl
    · unfold img at hb
      obtain ⟨i, h1, h2, h3⟩ := (imgTo_bit _ _ _ _).1 hb
      have := congrArg (fun n => n.testBit i) h
      simp only [Nat.testBit_and, colm, msk_testBit, decide_eq_true h1, h2, h3, Nat.zero_testBit] at this
      simp at this
  · intro h
    apply Nat.eq_of_testBit_eq
    intro i
    rw [Nat.testBit_and, colm, msk_testBit, Nat.zero_testBit]
    cases hi : a.testBit i
    · simp
    · cases hb : (lk.getD i 0).testBit j
      · simp
      · have h4 : (img lk a).testBit j = true := by unfold img; exact (imgTo_bit _ _ _ _).2 ⟨i, bit_lt ha hi, hi, hb⟩
        rw [h] at h4; cases h4
/-- a modality before the parts joined, by the rows that are read -/
def joiY (md op : Int) (yss : List (List Nd)) : Option (List Nd) :=
  if yss.any (fun y => y.length == 0) then none else if ((md, (0 : Int)) :: joinA op yss).length ≤ 40 then some ((md, 0) :: joinA op yss) else none
theorem joi_yss {md op : Int} {ps : List (Option (List Nd))} (h : ∀ o ∈ ps, ∀ xs, o = some xs → 0 < xs.length) : joi md op ps = joiY md op (ps.map fun o => o.getD []) := by
  unfold joi joiY
  by_cases ha : ps.all Option.isSome = true
  · have e : ps.filterMap id = ps.map fun o => o.getD [] := by
      clear h
      induction ps with
      | nil => rfl
      | cons a l ih =>
        rw [List.all_cons, Bool.and_eq_true] at ha
        cases a with
        | none => cases ha.1
        | some xs => simp [ih ha.2]
    have hf : (ps.map fun o => o.getD []).any (fun y => y.length == 0) = false := by
      rw [List.any_map, List.any_eq_false]
      intro o ho
      have h1 := List.all_eq_true.1 ha o ho
      cases o with
      | none => cases h1
      | some xs =>
        have := h _ ho xs rfl
        simp
        intro e; rw [e] at this; simp at this
    rw [if_pos ha, hf, e]
    rfl
  · rw [if_neg ha, if_pos]
    rw [Bool.not_eq_true, List.all_eq_false] at ha
    obtain ⟨o, ho, h1⟩ := ha
    rw [List.any_map, List.any_eq_true]
    refine ⟨o, ho, ?_⟩
    cases o with
    | none => rfl
    | some xs => exact absurd rfl h1
theorem any_take_succ {α : Type} (p : α → Bool) (l : List α) (n : Nat) (h : n < l.length) : (l.take (n + 1)).any p = ((l.take n).any p || p l[n]) := by
  rw [List.take_succ_eq_append_getElem h, List.any_append]; simp
theorem flat_le40 (yss : List (List Nd)) (h : ∀ xs ∈ yss, xs.length ≤ 40) : yss.flatten.length ≤ 40 * yss.length := by
  induction yss with
  | nil => simp
  | cons a l ih =>
    have h1 := h a (by simp)
    have h2 := ih fun xs hxs => h xs (by simp [hxs])
    simp only [List.length_cons, List.flatten_cons, List.length_append]
    omega
end Go.Proofs.Ytgdmfihnbbgcoaa

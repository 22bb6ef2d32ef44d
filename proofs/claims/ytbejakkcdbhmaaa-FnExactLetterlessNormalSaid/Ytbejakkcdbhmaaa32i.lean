/- Contracts of IsLetterless, of the program and of the reference. -/
import Derived.Test.Ytbejakkcdbhmaaa02c
import Derived.Test.Ytbejakkcdbhmaaa01b
namespace Go.Proofs.Ytbejakkcdbhmaaa
open Go.RowKit
set_option linter.unusedVariables false
set_option linter.unusedSimpArgs false
theorem isF_nodes {xs : List Nd} (h : isF xs = true) : ∀ n ∈ xs, isNd n = true := by
  obtain ⟨f, hf, rfl, _⟩ := (isF_iff xs).1 h
  exact enc_nodes f hf
theorem isF_len {xs : List Nd} (h : isF xs = true) : xs.length ≤ 40 := by
  simp only [isF, Bool.and_eq_true, decide_eq_true_eq] at h
  exact h.1
/-- what IsLetterless says -/
def letterless (xs : List Nd) : Bool := decide (vmask xs = 0)
def ilOut (xs : List Nd) : Bool × Int := if isF xs then (letterless xs, 0) else (false, 1)
theorem ilOut_yes {xs : List Nd} (h : isF xs = true) : ilOut xs = (letterless xs, 0) := by simp [ilOut, h]
theorem ilOut_no {xs : List Nd} (h : isF xs = false) : ilOut xs = (false, 1) := by simp [ilOut, h]
theorem spec_l02Variables (v : Value) (xs : List Nd) (w : World) (h : Sl cN w v xs) (hl : xs.length ≤ 1073741824) (hn : ∀ n ∈ xs, isNd n = true) :
    Calls Try.prog 178 #[v] w fun e w' => ∃ u, e = .returned u ∧ Ow cI 2 w.heap.size w' u (mems (vmask xs)) ∧ Below w.heap.size w w' := by
  obtain ⟨A, c, rfl⟩ := h.opn
  have HN := Lib.hid hn; clear hn
  go_enter Try.func178, Try.ntmps178
  go_wp2
  go_loop [3, 4] (fun m i => ∃ j : Nat, j ≤ xs.length ∧ i = .int .i64 j ∧ m = .int .i64 (vmask (xs.take j) : Nat)) (fun _ i => xs.length - (intOf i).toNat)
  case atStart => exact ⟨0, Nat.zero_le _, rfl, rfl⟩
  case round =>
    obtain ⟨j, hj, rfl, rfl⟩ := hrel
    by_cases hlt : j < xs.length
    · obtain ⟨b, o, rfl, hbl, hc0, hc1⟩ := h.atN hlt
      have HV : Hid (vmask (xs.take (j + 1)) = if xs[j].1 = 0 then vmask (xs.take j) ||| 2 ^ xs[j].2.toNat else vmask (xs.take j)) := by
        show _ = _
        rw [List.take_succ_eq_append_getElem hlt, vmask_snoc]
      have hm : vmask (xs.take j) < 64 := vmask_lt _ fun n hn => HN.out n (List.mem_of_mem_take hn)
      have hnd := HN.out xs[j] (List.getElem_mem hlt)
      by_cases hz : xs[j].1 = 0
      · rw [show xs[j] = (xs[j].1, xs[j].2) from rfl] at hnd
        simp [isNd, hz, inR] at hnd
        have hz' : (xs[j].1 == 0) = true := by simp [hz]
        have HZ := Lib.hid hz; clear hz
        have e2 : bits .or .i64 (vmask (xs.take j) : Nat) ((2 : Int) ^ xs[j].2.toNat) = ((vmask (xs.take j) ||| 2 ^ xs[j].2.toNat : Nat) : Int) := by rw [cast_two_pow]; exact i64_or_nat _ _ (by omega) (two_pow_lt (by omega))
        go_wp2_with fail
        refine (spec_l01One _ _ (by omega) (by omega)).mono ?_
        rintro e w1 ⟨rfl, rfl⟩
        go_wp2
        go_round
        case rel => exact ⟨j + 1, by omega, by go_num, by rw [HV.out, if_pos HZ.out]⟩
        case measure => simp [intOf]; omega
      · have hz' : (xs[j].1 == 0) = false := by simp [hz]
        have HZ := Lib.hid hz; clear hz
        clear hnd
        go_wp2
        go_round
        case rel => exact ⟨j + 1, by omega, by go_num, by rw [HV.out, if_neg HZ.out]⟩
        case measure => simp [intOf]; omega
    · have ht : xs.take j = xs := List.take_of_length_le (by omega)
      have hm := vmask_lt xs HN.out
      have HT := Lib.hid ht; clear ht
      go_wp2_with fail
      rw [HT.out]
      refine (spec_l01List (vmask xs) _ (by omega)).mono ?_
      rintro e w1 ⟨u, rfl, ho, hb⟩
      have O := Lib.hid ho; clear ho
      have HB := Lib.hid hb; clear hb
      go_wp2
      go_ret
      exact ⟨_, rfl, O.out, HB.out⟩
theorem spec_l32Letterless (v : Value) (xs : List Nd) (w : World) (h : Sl cN w v xs) (hl : xs.length ≤ 1073741824) (hn : ∀ n ∈ xs, isNd n = true) :
    Calls Try.prog 194 #[v] w fun e w' => e = .returned (.bool (letterless xs)) ∧ Below w.heap.size w w' := by
  have hm := vmask_lt xs hn
  go_enter Try.func194, Try.ntmps194
  go_wp2_with fail
  refine (spec_l02Variables v xs _ h hl hn).mono ?_
  rintro e w1 ⟨u, rfl, ho, hb⟩
  obtain ⟨A, c, rfl⟩ := ho.opn
  have HB := Lib.hid hb; clear hb ho
  have hlen : (mems (vmask xs)).length ≤ 64 := memsTo_length _ _
  have E : Hid (letterless xs = (((mems (vmask xs)).length : Int) == 0)) := by
    show _ = _
    have := mems_nil (vmask xs) (by omega)
    unfold letterless
    rw [Bool.eq_iff_iff, decide_eq_true_eq, ← this, beq_iff_eq]
    constructor
    · intro h; rw [h]; rfl
    · intro h; exact List.eq_nil_of_length_eq_zero (by omega)
  clear hn
  go_wp2
  go_ret
  exact ⟨by rw [E.out]; rfl, HB.out⟩
end Go.Proofs.Ytbejakkcdbhmaaa

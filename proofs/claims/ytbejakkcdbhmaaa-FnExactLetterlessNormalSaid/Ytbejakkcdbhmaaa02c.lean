/- Contracts of chapter 2: the variables of a formula, as a mask. -/
import Derived.Test.Ytbejakkcdbhmaaa02b
import Derived.Test.YtbejakkcdbhmaaaBits
namespace Go.Proofs.Ytbejakkcdbhmaaa
open Go.RowKit
set_option linter.unusedVariables false
set_option linter.unusedSimpArgs false
/-- the mask of the variables among some nodes -/
def vmask (xs : List Nd) : Nat := xs.foldl (fun m n => if n.1 = 0 then m ||| 2 ^ n.2.toNat else m) 0
theorem vmask_snoc (xs : List Nd) (n : Nd) : vmask (xs ++ [n]) = if n.1 = 0 then vmask xs ||| 2 ^ n.2.toNat else vmask xs := by simp [vmask]
theorem vmask_lt (xs : List Nd) (h : ∀ n ∈ xs, isNd n = true) : vmask xs < 64 := by
  have key : ∀ (xs : List Nd) (m : Nat), (∀ n ∈ xs, isNd n = true) → m < 2 ^ 6 → xs.foldl (fun m n => if n.1 = 0 then m ||| 2 ^ n.2.toNat else m) m < 2 ^ 6 := by
    intro xs
    induction xs with
    | nil => intro m _ hm; simpa using hm
    | cons n t ih =>
      intro m h hm
      rw [List.foldl_cons]
      refine ih _ (fun x hx => h x (List.mem_cons_of_mem _ hx)) ?_
      split
      · rename_i hz
        have hn := h n List.mem_cons_self
        simp [isNd, hz, inR] at hn
        exact Nat.or_lt_two_pow hm (Nat.pow_lt_pow_right (by decide) (by omega))
      · exact hm
  unfold vmask
  simpa using key xs 0 h (by decide)
theorem impl_variableMask (v : Value) (xs : List Nd) (w : World) (h : Sl cN w v xs) (hl : xs.length ≤ 1073741824) (hn : ∀ n ∈ xs, isNd n = true) :
    Calls Try.prog 82 #[v] w fun e w' => e = .returned (.int .i64 (vmask xs : Nat)) ∧ Below w.heap.size w w' := by
  obtain ⟨A, c, rfl⟩ := h.opn
  have HN := Lib.hid hn; clear hn
  go_enter Try.func82, Try.ntmps82
  go_wp2
  go_loopw [3, 8] (fun m i wr => ∃ j : Nat, j ≤ xs.length ∧ i = .int .i64 j ∧ m = .int .i64 (vmask (xs.take j) : Nat) ∧ Below w.heap.size w wr) (fun _ i _ => xs.length - (intOf i).toNat)
  case atStart => exact ⟨0, Nat.zero_le _, rfl, rfl, Below.refl _ _⟩
  case round =>
    obtain ⟨j, hj, rfl, rfl, hb⟩ := hrel
    by_cases hlt : j < xs.length
    · obtain ⟨b, o, rfl, hbl, hc0, hc1⟩ := (h.below hb).atN hlt
      have HV : Hid (vmask (xs.take (j + 1)) = if xs[j].1 = 0 then vmask (xs.take j) ||| 2 ^ xs[j].2.toNat else vmask (xs.take j)) := by
        show _ = _
        rw [List.take_succ_eq_append_getElem hlt, vmask_snoc]
      have hm : vmask (xs.take j) < 64 := vmask_lt _ fun n hn => HN.out n (List.mem_of_mem_take hn)
      have hnd := HN.out xs[j] (List.getElem_mem hlt)
      have hB : Below w.heap.size w (wr.alloc (.cells #[.int .i64 xs[j].1, .int .i64 xs[j].2] 95)) := hb.alloc hb.size _
      have HB := Lib.hid hB
      clear hb hB
      by_cases hz : xs[j].1 = 0
      · rw [show xs[j] = (xs[j].1, xs[j].2) from rfl] at hnd
        simp [isNd, hz, inR] at hnd
        have hz' : (xs[j].1 == 0) = true := by simp [hz]
        have HZ := Lib.hid hz; clear hz
        have e1 := wrap_two_pow (n := xs[j].2.toNat) (by omega)
        have e2 : bits .or .i64 (vmask (xs.take j) : Nat) ((2 : Int) ^ xs[j].2.toNat) = ((vmask (xs.take j) ||| 2 ^ xs[j].2.toNat : Nat) : Int) := by rw [cast_two_pow]; exact i64_or_nat _ _ (by omega) (two_pow_lt (by omega))
        go_wp2
        go_roundw
        case rel => exact ⟨j + 1, by omega, by go_num, by rw [HV.out, if_pos HZ.out], HB.out⟩
        case measure => simp [intOf]; omega
      · have hz' : (xs[j].1 == 0) = false := by simp [hz]
        have HZ := Lib.hid hz; clear hz
        clear hnd
        go_wp2
        go_roundw
        case rel => exact ⟨j + 1, by omega, by go_num, by rw [HV.out, if_neg HZ.out], HB.out⟩
        case measure => simp [intOf]; omega
    · have ht : xs.take j = xs := List.take_of_length_le (by omega)
      have HT := Lib.hid ht; clear ht
      go_wp2
      go_ret
      exact ⟨by rw [HT.out]; rfl, hb⟩
end Go.Proofs.Ytbejakkcdbhmaaa

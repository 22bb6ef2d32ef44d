/- Contracts of chapter 5: flags of a frame, of the program. -/
import Derived.Test.YtnolbgdbboiehaaGreatDoor05e
import Derived.Test.YtnolbgdbboiehaaGreatDoor33u
import Derived.StillTailTactics
namespace Go.Proofs.YtnolbgdbboiehaaGreatDoor
open Go.RowKit
set_option linter.unusedVariables false
set_option linter.unusedSimpArgs false
theorem mems_mem {m n : Nat} (hm : m < 2 ^ n) {x : Int} (hx : x ∈ mems m) : ∃ i : Nat, x = i ∧ i < n := by
  unfold mems memsTo at hx
  rw [List.mem_map] at hx
  obtain ⟨i, hi, rfl⟩ := hx
  rw [List.mem_filter] at hi
  refine ⟨i, rfl, ?_⟩
  rcases Nat.lt_or_ge i n with h | h
  · exact h
  · have := Nat.testBit_lt_two_pow (Nat.lt_of_lt_of_le hm (Nat.pow_le_pow_right (by decide) h))
    rw [this] at hi
    exact absurd hi.2 (by decide)
theorem mems_length (m : Nat) : (mems m).length ≤ 64 := memsTo_length m 64
theorem slices_Equal_int64 (v u : Value) (xs ys : List Int) (w : World) (hx : Sl cI w v xs) (hy : Sl cI w u ys) (hl : xs.length ≤ 1073741824) (hl2 : ys.length = xs.length) :
    Calls Tryz.prog 130 #[v, u] w fun e w' => e = .returned (.bool (decide (xs = ys))) ∧ Below w.heap.size w w' := by
  obtain ⟨A, c, rfl⟩ := hx.opn
  obtain ⟨B, d, rfl⟩ := hy.opn
  rw [hl2] at hy ⊢
  have HL := Lib.hid hl2
  go_enter Tryz.func130, Tryz.ntmps130
  go_wp2
  go_loopw [13] (fun i wr => ∃ j : Nat, j ≤ xs.length ∧ i = .int .i64 j ∧ (∀ k (h1 : k < xs.length) (h2 : k < ys.length), k < j → xs[k] = ys[k]) ∧ Below w.heap.size w wr) (fun i _ => xs.length - (intOf i).toNat)
  case atStart => exact ⟨0, Nat.zero_le _, rfl, fun k _ _ h => by omega, Below.refl _ _⟩
  case round =>
    obtain ⟨j, hj, rfl, hh, hb⟩ := hrel
    have Hh := Lib.hid hh; clear hh
    have HB := Lib.hid hb
    by_cases hlt : j < xs.length
    · have hlt2 : j < ys.length := by rw [HL.out]; exact hlt
      obtain ⟨b, o, rfl, hbl, hc0⟩ := (hx.below hb).atI hlt
      obtain ⟨b2, o2, rfl, hbl2, hd0⟩ := (hy.below hb).atI hlt2
      by_cases he : xs[j] = ys[j]
      · have HS : Hid (∀ k (h1 : k < xs.length) (h2 : k < ys.length), k < j + 1 → xs[k] = ys[k]) := Lib.hid fun k h1 h2 h3 => by
          rcases Nat.lt_or_ge k j with h | h
          · exact Hh.out k h1 h2 h
          · obtain rfl : k = j := by omega
            exact he
        have hd : (xs[j] != ys[j]) = false := by rw [he]; simp
        generalize xs[j] = x at *
        generalize ys[j] = y at *
        clear hb
        go_wp2
        go_quiet (fail)
        go_wp2
        go_roundw
        case rel => exact ⟨j + 1, by omega, by go_num, HS.out, below_drewN HB.out _⟩
        case measure => simp [intOf]; omega
      · have HE : Hid (decide (xs = ys) = false) := Lib.hid (decide_eq_false fun h => he (by subst h; rfl))
        have hd : (xs[j] != ys[j]) = true := bne_iff_ne.2 he
        generalize xs[j] = x at *
        generalize ys[j] = y at *
        clear hb
        go_wp2
        go_quiet (fail)
        go_wp2
        go_ret
        exact ⟨by rw [HE.out]; rfl, below_drewN HB.out _⟩
    · have HE : Hid (decide (xs = ys) = true) := Lib.hid (decide_eq_true (List.ext_getElem HL.out.symm fun k h1 h2 => Hh.out k h1 h2 (by omega)))
      clear hb
      go_wp2
      go_ret
      exact ⟨by rw [HE.out]; rfl, HB.out⟩
theorem impl_everyWorld (n : Nat) (v : Value) (A : Option Addr) (m c : Nat) (hv : v = .slice A m c) (k : FuncId) (cap : Array Value) (p : Nat → Bool) (w : World) (hn : n ≤ 8)
    (hk : ∀ (args : Array Value) (w : World), (callFunc k args).run Tryz.prog w = .ok (.enter k args) w)
    (hf : ∀ w', Below w.heap.size w w' → ∀ (i : Nat), i < n → Calls Tryz.prog k (#[.int .i64 i] ++ cap) w' fun e w'' => e = .returned (.bool (p i)) ∧ Below w'.heap.size w' w'') :
    Calls Tryz.prog 91 #[.agg #[.int .i64 n, v], .func (.func k) #[] cap] w fun e w' => e = .returned (.bool ((List.range n).all p)) ∧ Below w.heap.size w w' := by
  subst hv
  have hb0 := below_alloc' w (.cells #[.int .i64 n, .slice A m c] 26)
  have hk0 := Blk.new w 26 #[.int .i64 n, .slice A m c]
  have hkl := hk0.lt
  have HK := Lib.hid hk0
  have HB := Lib.hid hb0
  have HF := Lib.hid hf
  clear hf hb0 hk0
  go_enter Tryz.func91, Tryz.ntmps91
  go_wp2
  go_loopw [8] (fun i wr => ∃ j : Nat, j ≤ n ∧ i = .int .i64 j ∧ (∀ i < j, p i = true) ∧ Below w.heap.size w wr) (fun i _ => n - (intOf i).toNat)
  case atStart => exact ⟨0, Nat.zero_le _, rfl, fun i hi => by omega, HB.out⟩
  case round =>
    obtain ⟨j, hj, rfl, hh, hb⟩ := hrel
    have Hh := Lib.hid hh; clear hh
    by_cases hlt : j < n
    · go_wp2_with fail
      refine (HF.out wr hb j hlt).mono ?_
      rintro e w1 ⟨rfl, hb1⟩
      have HB1 : Hid (Below w.heap.size w w1) := Lib.hid (hb.trans (hb1.mono hb.size))
      clear hb1 hb
      by_cases hp : p j = true
      · rw [hp]
        have HP := Lib.hid hp; clear hp
        go_wp2
        go_roundw
        case rel => exact ⟨j + 1, by omega, by go_num, fun i hi => (Nat.lt_or_ge i j).elim (fun h => Hh.out i h) (fun h => (show i = j by omega) ▸ HP.out), HB1.out⟩
        case measure => simp [intOf]; omega
      · have HE : Hid ((List.range n).all p = false) := Lib.hid (by rw [← Bool.not_eq_true, List.all_eq_true]; exact fun h => hp (h j (List.mem_range.2 hlt)))
        rw [Bool.not_eq_true] at hp
        rw [hp]
        have HP := Lib.hid hp; clear hp
        go_wp2
        go_ret
        exact ⟨by rw [HE.out]; rfl, HB1.out⟩
    · have HE : Hid ((List.range n).all p = true) := Lib.hid (by rw [List.all_eq_true]; exact fun i hi => Hh.out i (by rw [List.mem_range] at hi; omega))
      have HB1 := Lib.hid hb; clear hb
      go_wp2
      go_ret
      exact ⟨by rw [HE.out]; rfl, HB1.out⟩
end Go.Proofs.YtnolbgdbboiehaaGreatDoor

/- Joined of several texts: LI, LF. -/
import Derived.Test.YtaigiopoogbbbaaGreatY00
import Derived.BigQuiet
import Derived.Deep.QuietTactic
import Derived.StillTailTactics
import Derived.WalkLawsBesides
import Derived.WalkSpells
namespace Go.Proofs.YtaigiopoogbbbaaGreat
open Go.RowKit
set_option linter.unusedVariables false
set_option linter.unusedSimpArgs false
/- Contracts of the laws' own small functions on []int64: size, copy, comparison, marks. -/

theorem ty_int64 : Ty Tryz.prog 24 2 (.int .i64 0) 1 8 := Ty.mk' Tryz.underlying24 (by kernel_rfl) rfl (by decide)
theorem Sl.atI {w : World} {A : Option Addr} {n c : Nat} {xs : List Int} (h : Sl cI w (.slice A n c) xs) {k : Nat} (hk : k < xs.length) :
    ∃ b o, A = some ⟨b, o, none⟩ ∧ b < w.heap.size ∧ w.cell? ⟨b, o + k, none⟩ = some (.int .i64 xs[k]) := by
  obtain ⟨b, o, hA, hb, hc⟩ := h.cell hk
  have := hc 0 (.int .i64 xs[k]) rfl
  exact ⟨b, o, hA, hb, by simpa [cI] using this⟩

/-- what is left of a size -/
def szL (l n : Int) : Int := if l - n < 0 then -1 else l - n
theorem szL_neg {l n : Int} (h : l - n < 0) : szL l n = -1 := if_pos h
theorem szL_pos {l n : Int} (h : ¬ l - n < 0) : szL l n = l - n := if_neg h

/-- the numbers k, k + 1 .. -/
def numL : Nat → Int → List Int
  | 0, _ => []
  | n + 1, k => k :: numL n (k + 1)
theorem numL_length (n : Nat) (k : Int) : (numL n k).length = n := by
  induction n generalizing k with
  | zero => rfl
  | succ n ih => simp [numL, ih]
theorem numL_snoc (n : Nat) (k : Int) : numL (n + 1) k = numL n k ++ [k + n] := by
  induction n generalizing k with
  | zero => simp [numL]
  | succ n ih =>
    rw [numL, ih (k + 1), numL, List.cons_append]
    congr 3
    omega
theorem set_numL (xs : List Int) (k : Int) (j : Nat) (h : j < xs.length) : (numL j k ++ xs.drop j).set j (k + j) = numL (j + 1) k ++ xs.drop (j + 1) := by
  rw [List.set_append, if_neg (by rw [numL_length]; omega), numL_length, Nat.sub_self, List.drop_eq_getElem_cons h, List.set_cons_zero, numL_snoc]
  simp

/-- marks: the slice is the call's caller's own; it alone is written -/
theorem mark_int64S (v : Value) (xs : List Int) (k : Int) (B : Nat) (w : World) (h : Ow cI 2 B w v xs) (hl : xs.length ≤ 1073741824) (hk : 0 ≤ k ∧ k ≤ 1073741824) :
    Calls Tryz.prog 11 #[v, .int .i64 k] w fun e w' => e = .returned (.int .i64 (k + xs.length)) ∧ Ow cI 2 B w' v (numL xs.length k) ∧ w.grownBy w' v.ownBlock := by
  obtain ⟨⟨A, c, rfl, hc, hm⟩, ho'⟩ := id h
  have ho1 : Ow cI 2 B w (.slice A xs.length c) xs := h
  clear h ho'
  go_enter Tryz.func11, Tryz.ntmps11
  go_wp2
  go_loopw [1, 5] (fun q i wr => ∃ j : Nat, j ≤ xs.length ∧ i = .int .i64 j ∧ q = .int .i64 (k + j) ∧ Ow cI 2 B wr (.slice A xs.length c) (numL j k ++ xs.drop j) ∧ w.grownBy wr (Value.ownBlock (.slice A xs.length c))) (fun _ i _ => xs.length - (intOf i).toNat)
  case atStart => exact ⟨0, Nat.zero_le _, rfl, by simp, by simpa [numL] using ho1, World.grownBy.refl _ _⟩
  case round =>
    obtain ⟨j, hj, rfl, rfl, ho, hg⟩ := hrel
    by_cases hlt : j < xs.length
    · obtain ⟨g, rfl, -, -⟩ := ho.head (by simp [numL_length]; omega)
      obtain ⟨hc1, hf1, hB1, hg1'⟩ := ho.at1 rfl (j := j) (by simp [numL_length]; omega) rfl
      obtain ⟨old, hc1'⟩ : ∃ old, wr.cell? ⟨g, j, none⟩ = some old := ⟨_, hc1⟩
      have hset := ho.set1 (j := j) (x := k + j) (u := .int .i64 (k + j)) rfl rfl (by simp [numL_length]; omega)
      rw [set_numL xs k j hlt] at hset
      have H := Lib.hid ho
      clear ho hc1
      go_wp2
      go_roundw
      case rel =>
        exact ⟨j + 1, by omega, by go_num, by go_num, hset, hg.trans ⟨rfl, rfl, rfl, by simp [World.setCell], fun i _ hne => Below.heap_setCell _ _ _ _ (fun e => hne (by simp [Value.ownBlock, e]))⟩⟩
      case measure => simp [intOf]; omega
    · obtain rfl : j = xs.length := by omega
      have ho2 : Ow cI 2 B wr (.slice A xs.length c) (numL xs.length k) := by simpa using ho
      clear ho
      go_wp2
      go_ret
      exact ⟨rfl, ho2, hg⟩

/-- are the marks still there? -/
def heldL : List Int → Int → Int
  | [], k => k
  | x :: xs, k => if x = k then heldL xs (k + 1) else -1
theorem heldL_numL (n : Nat) (k : Int) : heldL (numL n k) k = k + n := by
  induction n generalizing k with
  | zero => simp [numL, heldL]
  | succ n ih => rw [numL, heldL, if_pos rfl, ih]; omega
theorem heldL_drop (xs : List Int) (j : Nat) (k : Int) (h : j < xs.length) : heldL (xs.drop j) (k + j) = if xs[j] = k + j then heldL (xs.drop (j + 1)) (k + (j + 1 : Nat)) else -1 := by
  rw [List.drop_eq_getElem_cons h, heldL]
  rw [show k + (j : Int) + 1 = k + ((j + 1 : Nat) : Int) from by omega]

theorem held_int64S (v : Value) (xs : List Int) (k : Int) (w : World) (h : Sl cI w v xs) (hl : xs.length ≤ 1073741824) (hk : 0 ≤ k ∧ k ≤ 1073741824) :
    Calls Tryz.prog 12 #[v, .int .i64 k] w fun e w' => e = .returned (.int .i64 (heldL xs k)) ∧ w = w' := by
  obtain ⟨A, c, rfl, hc, hm, hr⟩ := id h
  clear hr
  go_enter Tryz.func12, Tryz.ntmps12
  go_wp2
  go_loop [1, 5] (fun q i => ∃ j : Nat, j ≤ xs.length ∧ i = .int .i64 j ∧ q = .int .i64 (k + j) ∧ heldL xs k = heldL (xs.drop j) (k + j)) (fun _ i => xs.length - (intOf i).toNat)
  case atStart => exact ⟨0, Nat.zero_le _, rfl, by simp, by simp⟩
  case round =>
    obtain ⟨j, hj, rfl, rfl, hh⟩ := hrel
    have Hh := Lib.hid hh; clear hh
    by_cases hlt : j < xs.length
    · obtain ⟨b, o, rfl, hb, hcell⟩ := h.atI hlt
      by_cases hx : xs[j] = k + j
      · have hx' : (xs[j] != k + (j : Int)) = false := by rw [hx]; simp
        have Hx := Lib.hid hx; clear hx
        go_wp2
        go_round
        case rel => exact ⟨j + 1, by omega, by go_num, by go_num, by rw [Hh.out, heldL_drop xs j k hlt, if_pos Hx.out]⟩
        case measure => simp [intOf]; omega
      · have hx' : (xs[j] != k + (j : Int)) = true := by simpa using hx
        go_wp2
        go_ret
        exact ⟨by rw [Hh.out, heldL_drop xs j k hlt, if_neg hx]; rfl, rfl⟩
    · obtain rfl : j = xs.length := by omega
      go_wp2
      go_ret
      exact ⟨by rw [Hh.out]; simp [heldL], rfl⟩

theorem eq_int64S (v u : Value) (xs ys : List Int) (w : World) (hx : Sl cI w v xs) (hy : Sl cI w u ys) (hn : xs.length ≤ 1073741824) :
    Calls Tryz.prog 8 #[v, u] w fun e w' => e = .returned (.bool (decide (xs = ys))) ∧ ∃ q, w' = w.drewN q := by
  obtain ⟨A, c, rfl, _, hm, hr⟩ := id hx
  obtain ⟨B, d, rfl, _, hm', hr'⟩ := id hy
  clear hr hr'
  by_cases hl : xs.length = ys.length
  · have hl' : ((xs.length : Int) != (ys.length : Int)) = false := by simp [hl]
    have HL := Lib.hid hl
    clear hl
    go_enter Tryz.func8, Tryz.ntmps8
    go_wp2
    go_loopw [5] (fun i wr => ∃ j : Nat, j ≤ xs.length ∧ i = .int .i64 j ∧ (∃ q, wr = w.drewN q) ∧ xs.take j = ys.take j) (fun i _ => xs.length - (intOf i).toNat)
    case atStart => exact ⟨0, Nat.zero_le _, rfl, ⟨0, rfl⟩, by simp⟩
    case round =>
      obtain ⟨j, hj, rfl, ⟨q, rfl⟩, hh⟩ := hrel
      have Hh := Lib.hid hh; clear hh
      by_cases hlt : j < xs.length
      · obtain ⟨b, o, rfl, hb, hcell⟩ := hx.atI hlt
        have hlt2 : j < ys.length := by have := HL.out; omega
        obtain ⟨b', o', rfl, hb', hcell'⟩ := hy.atI hlt2
        by_cases he : xs[j] = ys[j]
        · have he' : (xs[j] != ys[j]) = false := by simpa using he
          have He := Lib.hid he; clear he
          go_wp2
          go_quiet (fail)
          go_wp2
          go_roundw
          case rel => exact ⟨j + 1, by omega, by go_num, by first | exact ⟨_, rfl⟩ | exact ⟨_, World.drewN_drewN _ _ _⟩, by rw [List.take_succ_eq_append_getElem hlt, List.take_succ_eq_append_getElem hlt2, Hh.out, He.out]⟩
          case measure => simp [intOf]; omega
        · have he' : (xs[j] != ys[j]) = true := by simpa using he
          go_wp2
          go_quiet (fail)
          go_wp2
          go_ret
          exact ⟨by rw [decide_eq_false (fun e : xs = ys => he (by subst e; rfl))]; rfl, by first | exact ⟨_, rfl⟩ | exact ⟨_, World.drewN_drewN _ _ _⟩⟩
      · obtain rfl : j = xs.length := by omega
        go_wp2
        go_ret
        exact ⟨by rw [decide_eq_true (show xs = ys from by have := Hh.out; rw [List.take_length, HL.out, List.take_length] at this; exact this)]; rfl, _, rfl⟩
  · have hl' : ((xs.length : Int) != (ys.length : Int)) = true := by simp; omega
    go_enter Tryz.func8, Tryz.ntmps8
    go_wp2
    go_ret
    exact ⟨by rw [decide_eq_false (fun e : xs = ys => hl (by rw [e]))]; rfl, 0, rfl⟩
/- Contracts of the laws' own functions on Frames and Traces: comparison of alike ones, marks. -/
end Go.Proofs.YtaigiopoogbbbaaGreat

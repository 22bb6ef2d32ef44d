/- Contracts of UniquenessFormula, of the program and of the reference. -/
import Derived.Test.Ytgdmfihnbbgcoaa34a
namespace Go.Proofs.Ytgdmfihnbbgcoaa
open Go.RowKit
set_option linter.unusedVariables false
set_option linter.unusedSimpArgs false
theorem vmask_bit (xs : List Nd) (n : Nat) : (vmask xs).testBit n = xs.any fun x => x.1 == 0 && x.2.toNat == n := by
  have key : ∀ (xs : List Nd) (m : Nat), (xs.foldl (fun m n => if n.1 = 0 then m ||| 2 ^ n.2.toNat else m) m).testBit n = (m.testBit n || xs.any fun x => x.1 == 0 && x.2.toNat == n) := by
    intro xs
    induction xs with
    | nil => intro m; simp
    | cons x t ih =>
      intro m
      rw [List.foldl_cons, ih, List.any_cons]
      by_cases hx : x.1 = 0
      · rw [if_pos hx, Nat.testBit_or, Nat.testBit_two_pow]
        have e1 : (x.1 == 0) = true := by simp [hx]
        rw [e1, Bool.true_and, Bool.or_assoc]
        congr 2
      · rw [if_neg hx]
        have e1 : (x.1 == 0) = false := by simp [hx]
        rw [e1, Bool.false_and, Bool.false_or]
  have := key xs 0
  simpa [vmask] using this
/-- does a node of a variable occur? -/
def occ (xs : List Nd) (t : Int) : Bool := xs.any fun x => x.1 == 0 && x.2 == t
theorem occ_bit (xs : List Nd) (n : Nat) (h : ∀ x ∈ xs, isNd x = true) : occ xs n = (vmask xs).testBit n := by
  rw [vmask_bit]
  unfold occ
  induction xs with
  | nil => rfl
  | cons x t ih =>
    have key : (x.1 == 0 && x.2 == (n : Int)) = (x.1 == 0 && x.2.toNat == n) := by
      by_cases hx : x.1 = 0
      · have := h x List.mem_cons_self
        simp [isNd, hx, inR] at this
        rw [Bool.eq_iff_iff]
        simp [hx]
        omega
      · rw [show (x.1 == 0) = false from beq_eq_false_iff_ne.2 hx]
        rfl
    rw [List.any_cons, List.any_cons, ih fun y hy => h y (List.mem_cons_of_mem _ hy), key]
/-- the formula that says that two formulas imply each other -/
def eqL (v a : List Nd) : List Nd := [(2, 0)] ++ ([(4, 0)] ++ v ++ a) ++ ([(4, 0)] ++ a ++ v)
def unE (a : List Nd) (s : Nat) : List Nd := eqL [(0, (s : Int))] a
def unG (a : List Nd) (s t : Nat) : List Nd := repL (unE a s) s [(0, (t : Int))]
def unL (a : List Nd) (s t : Nat) : List Nd := [(4, 0)] ++ ((5, 0) :: ([(2, 0)] ++ unE a s ++ unG a s t)) ++ ((5, 0) :: ([(4, 0)] ++ [(0, (s : Int))] ++ [(0, (t : Int))]))
theorem unE_length (a : List Nd) (s : Nat) (h : a.length ≤ 40) : (unE a s).length ≤ 90 := by simp [unE, eqL]; omega
theorem unG_length (a : List Nd) (s t : Nat) (h : a.length ≤ 40) : (unG a s t).length ≤ 90 := by
  have h1 := repL_length (unE a s) s [(0, (t : Int))] 1 (by omega) (by simp)
  have h2 := unE_length a s h
  unfold unG
  omega
theorem unE_nodes (f : Fm) (s : Nat) (hok : f.ok = true) (hs : s ≤ 5) : ∀ n ∈ unE (enc f) s, isNd n = true := by
  have := enc_nodes (.bin .and (.bin .imp (.var s) f) (.bin .imp f (.var s))) (by simp [Fm.ok, hok, hs])
  simpa [enc, unE, eqL, BK.i] using this
theorem Sl2.two' {α : Type} {K : Cod α} {w : World} {A B : Option Addr} {n c m d : Nat} {xs ys : List α} (h : Sl K w (.slice A n c) xs) (h' : Sl K w (.slice B m d) ys) (e : TypeId) (g : Nat) (hg : g = w.heap.size) :
    Sl2 K (w.alloc (.cells #[.slice A n c, .slice B m d] e)) (.slice (some ⟨g, 0, none⟩) 2 2) [xs, ys] := by subst hg; exact Sl2.two h h' e
theorem spec_l33Occurs (v : Value) (xs : List Nd) (t : Int) (w : World) (h : Sl cN w v xs) (hl : xs.length ≤ 1073741824) :
    Calls Try.prog 109 #[v, .int .i64 t] w fun e w' => e = .returned (.bool (occ xs t)) ∧ w = w' := by
  obtain ⟨A, c, rfl⟩ := h.opn
  go_enter Try.func109, Try.ntmps109
  go_wp2
  go_loop [5] (fun i => ∃ j : Nat, j ≤ xs.length ∧ i = .int .i64 j ∧ occ (xs.take j) t = false) (fun i => xs.length - (intOf i).toNat)
  case atStart => exact ⟨0, Nat.zero_le _, rfl, rfl⟩
  case round =>
    obtain ⟨j, hj, rfl, hh⟩ := hrel
    have Hh := Lib.hid hh; clear hh
    by_cases hlt : j < xs.length
    · obtain ⟨b, o, rfl, hbl, hc0, hc1⟩ := h.atN hlt
      have HT : Hid (occ (xs.take (j + 1)) t = (xs[j].1 == 0 && xs[j].2 == t)) := Lib.hid (by
        have := Hh.out
        unfold occ at this ⊢
        rw [List.take_succ_eq_append_getElem hlt, List.any_append, this]
        simp)
      have HA : Hid ((xs[j].1 == 0 && xs[j].2 == t) = true → occ xs t = true) := Lib.hid fun h1 => List.any_eq_true.2 ⟨_, List.getElem_mem hlt, h1⟩
      generalize xs[j] = x at *
      obtain ⟨x1, x2⟩ := x
      simp only at hc0 hc1 HT HA
      cases e1 : (x1 == 0)
      · rw [e1, Bool.false_and] at HT
        go_wp2
        go_round
        case rel => exact ⟨j + 1, by omega, by go_num, HT.out⟩
        case measure => simp [intOf]; omega
      · cases e2 : (x2 == t)
        · rw [e1, e2, Bool.true_and] at HT
          go_wp2
          go_round
          case rel => exact ⟨j + 1, by omega, by go_num, HT.out⟩
          case measure => simp [intOf]; omega
        · have HO := Lib.hid (HA.out (by rw [e1, e2]; rfl))
          go_wp2
          go_ret
          exact ⟨by rw [HO.out]; rfl, rfl⟩
    · have HO : Hid (occ xs t = false) := Lib.hid (by have := Hh.out; rwa [List.take_of_length_le (by omega)] at this)
      go_wp2
      go_ret
      exact ⟨by rw [HO.out]; rfl, rfl⟩
end Go.Proofs.Ytgdmfihnbbgcoaa

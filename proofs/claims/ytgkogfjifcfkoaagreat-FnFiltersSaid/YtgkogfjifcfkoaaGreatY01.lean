/- Joined of several texts. -/
import Derived.Test.YtgkogfjifcfkoaaGreatY00
import Derived.BigQuiet
import Derived.Deep.QuietTactic
import Derived.StillTailTactics
import Derived.WalkLawsBesides
import Derived.WalkSpells
import Derived.Test.YtgkogfjifcfkoaaGreatRows
import Derived.Laws.BitsAllLaws
import Derived.Laws.BitsLemmas
namespace Go.Proofs.YtgkogfjifcfkoaaGreat
/- Joined of several texts: LI, LF. -/
open Go.RowKit
set_option linter.unusedVariables false
set_option linter.unusedSimpArgs false
/- Contracts of the laws' own small functions on []int64: size, copy, comparison, marks. -/

theorem ty_int64 : Ty Tryz.prog 27 2 (.int .i64 0) 1 8 := Ty.mk' Tryz.underlying27 (by kernel_rfl) rfl (by decide)
theorem Sl.atI {w : World} {A : Option Addr} {n c : Nat} {xs : List Int} (h : Sl cI w (.slice A n c) xs) {k : Nat} (hk : k < xs.length) :
    ∃ b o, A = some ⟨b, o, none⟩ ∧ b < w.heap.size ∧ w.cell? ⟨b, o + k, none⟩ = some (.int .i64 xs[k]) := by
  obtain ⟨b, o, hA, hb, hc⟩ := h.cell hk
  have := hc 0 (.int .i64 xs[k]) rfl
  exact ⟨b, o, hA, hb, by simpa [cI] using this⟩




/- Contracts of the laws' own functions on Frames and Traces: comparison of alike ones, marks. -/
/- Joined of several texts: M02, 01, 02, 02b, Bits, 02c, 01b, 32i, 02d, M32. -/
open Go.RowKit
set_option linter.unusedVariables false
set_option linter.unusedSimpArgs false
/- Plain words of chapter 2: nodes, the end of a part, formulas as trees and their lists of nodes. No program in sight. -/
/-- is x from l to h? -/
def inR (x l h : Int) : Bool := decide (l ≤ x) && decide (x ≤ h)
theorem inR_true {x l h : Int} (h1 : l ≤ x) (h2 : x ≤ h) : inR x l h = true := by simp [inR, h1, h2]
theorem inR_iff {x l h : Int} : inR x l h = true ↔ l ≤ x ∧ x ≤ h := by simp [inR]

abbrev Nd := Int × Int
/-- how many parts the nodes of a kind have -/
def parts (k : Int) : Int := if k = 2 ∨ k = 3 ∨ k = 4 then 2 else if k = 5 ∨ k = 6 then 1 else 0

inductive BK where
  | and | or | imp
inductive UK where
  | box | dia
/-- formulas as trees -/
inductive Fm where
  | var (s : Nat)
  | fls
  | bin (k : BK) (a b : Fm)
  | un (k : UK) (a : Fm)
def BK.i : BK → Int | .and => 2 | .or => 3 | .imp => 4
def UK.i : UK → Int | .box => 5 | .dia => 6
theorem BK.parts (k : BK) : parts k.i = 2 := by cases k <;> rfl
theorem UK.parts (k : UK) : Go.Proofs.YtgkogfjifcfkoaaGreat.parts k.i = 1 := by cases k <;> rfl
/-- the nodes of a formula -/
def enc : Fm → List Nd
  | .var s => [(0, (s : Int))]
  | .fls => [(1, 0)]
  | .bin k a b => (k.i, 0) :: (enc a ++ enc b)
  | .un k a => (k.i, 0) :: enc a
/-- its variables are among the six -/
def Fm.ok : Fm → Bool
  | .var s => decide (s ≤ 5)
  | .fls => true
  | .bin _ a b => a.ok && b.ok
  | .un _ a => a.ok
/- Contracts of the small functions of chapter 1, of the program and of the reference. -/
theorem impl_inRange (x l h : Int) (w : World) :
    Calls Tryz.prog 88 #[.int .i64 x, .int .i64 l, .int .i64 h] w fun e w' => e = .returned (.bool (inR x l h)) ∧ w = w' := by
  by_cases h1 : l ≤ x <;> by_cases h2 : x ≤ h
  all_goals
    go_enter Tryz.func88, Tryz.ntmps88
    go_wp2
    go_ret
    exact ⟨by simp [inR, h1, h2], rfl⟩
theorem spec_l01In (x l h : Int) (w : World) :
    Calls Tryz.prog 110 #[.int .i64 x, .int .i64 l, .int .i64 h] w fun e w' => e = .returned (.bool (inR x l h)) ∧ w = w' := by
  by_cases h1 : l ≤ x <;> by_cases h2 : x ≤ h
  all_goals
    go_enter Tryz.func110, Tryz.ntmps110
    go_wp2
    go_ret
    exact ⟨by simp [inR, h1, h2], rfl⟩
theorem impl_size_int64 (v : Value) (xs : List Int) (w : World) (h : Sl cI w v xs) :
    Calls Tryz.prog 80 #[v] w fun e w' => e = .returned (.int .i64 xs.length) ∧ w = w' := by
  obtain ⟨A, c, rfl, hc, hm, hr⟩ := h
  go_enter Tryz.func80, Tryz.ntmps80
  go_wp2
  go_ret
  exact ⟨rfl, rfl⟩
/-- powers of two, to 62 -/
theorem two_pow_le {n : Nat} (h : n ≤ 62) : (2 : Int) ^ n ≤ 4611686018427387904 := by
  have h1 : (2 : Nat) ^ n ≤ 2 ^ 62 := Nat.pow_le_pow_right (by decide) h
  have h2 : (2 : Int) ^ n = ((2 ^ n : Nat) : Int) := by rw [Int.natCast_pow]; rfl
  rw [h2]
  have h3 : (2 : Nat) ^ 62 = 4611686018427387904 := by decide
  omega
theorem wrap_two_pow {n : Nat} (h : n ≤ 62) : wrap64 ((2 : Int) ^ n) = 2 ^ n := by
  have h1 := two_pow_le h
  have h2 : (0 : Int) < 2 ^ n := Int.pow_pos (by decide)
  exact IntWalk.wrap64_in _ ⟨by omega, by omega⟩
theorem spec_l01One (x : Int) (w : World) (h0 : 0 ≤ x) (h1 : x ≤ 62) :
    Calls Tryz.prog 33 #[.int .i64 x] w fun e w' => e = .returned (.int .i64 (2 ^ x.toNat)) ∧ w = w' := by
  go_enter Tryz.func33, Tryz.ntmps33
  go_wp2
  go_ret
  exact ⟨by rw [wrap_two_pow (n := x.toNat) (by omega)]; rfl, rfl⟩
theorem spec_l01Full (x : Int) (w : World) (h0 : 0 ≤ x) (h1 : x ≤ 62) :
    Calls Tryz.prog 86 #[.int .i64 x] w fun e w' => e = .returned (.int .i64 (2 ^ x.toNat - 1)) ∧ w = w' := by
  have h2 := two_pow_le (n := x.toNat) (by omega)
  have h3 : (0 : Int) < 2 ^ x.toNat := Int.pow_pos (by decide)
  go_enter Tryz.func86, Tryz.ntmps86
  go_wp2_with fail
  refine (spec_l01One _ _ (by omega) (by omega)).mono ?_
  rintro e w1 ⟨rfl, rfl⟩
  go_wp2
  go_ret
  exact ⟨rfl, rfl⟩
/- Contracts of chapter 2's functions on formulas, of the program and of the reference. -/

/- Contracts of chapter 2, more: is a list a formula? -/
/-- a call of a function of the program's own enters it -/
theorem enters {P : Program} {k : FuncId} {fn : Func} (hf : P.funcs[k]? = some fn) (hn : (fn.name == "runtime.NumGoroutine") = false) (hb : fn.body.isNone = false) :
    ∀ (args : Array Value) (w : World), (callFunc k args).run P w = .ok (.enter k args) w := by
  intro args w
  have h1 : fn.name ≠ "runtime.NumGoroutine" := by simpa using hn
  have h2 : fn.body ≠ none := fun e => by rw [e] at hb; cases hb
  simp [callFunc, hf, program, Sem.run, h1, h2]
/- Small facts on bits of int64s that are not below zero. -/
theorem ofInt_i64 (a : Nat) (ha : a < 9223372036854775808) : (BitVec.ofInt 64 (a : Int)).toNat = a := by
  rw [BitVec.ofInt_natCast, BitVec.toNat_ofNat]; exact Nat.mod_eq_of_lt (by omega)
theorem i64_and_nat (a b : Nat) (ha : a < 9223372036854775808) (hb : b < 9223372036854775808) : bits .and .i64 (a : Int) (b : Int) = ((a &&& b : Nat) : Int) := by
  have hx : a &&& b < 2 ^ 63 := Nat.and_lt_two_pow _ (by omega)
  show IntKind.i64.wrap ((BitVec.ofInt 64 (a : Int) &&& BitVec.ofInt 64 (b : Int)).toNat : Int) = _
  rw [BitVec.toNat_and, ofInt_i64 a ha, ofInt_i64 b hb, IntKind.wrap_i64]
  omega
theorem i64_or_nat (a b : Nat) (ha : a < 9223372036854775808) (hb : b < 9223372036854775808) : bits .or .i64 (a : Int) (b : Int) = ((a ||| b : Nat) : Int) := by
  have hx : a ||| b < 2 ^ 63 := Nat.or_lt_two_pow (by omega) (by omega)
  show IntKind.i64.wrap ((BitVec.ofInt 64 (a : Int) ||| BitVec.ofInt 64 (b : Int)).toNat : Int) = _
  rw [BitVec.toNat_or, ofInt_i64 a ha, ofInt_i64 b hb, IntKind.wrap_i64]
  omega
theorem cast_two_pow (n : Nat) : (2 : Int) ^ n = ((2 ^ n : Nat) : Int) := by rw [Int.natCast_pow]; rfl
theorem two_pow_lt {n : Nat} (h : n ≤ 62) : 2 ^ n < 9223372036854775808 := Nat.lt_of_le_of_lt (Nat.pow_le_pow_right (by decide) h) (by decide)
/-- the members of a mask below j, and all of them -/
def memsTo (m j : Nat) : List Int := ((List.range j).filter m.testBit).map (fun (i : Nat) => (i : Int))
def mems (m : Nat) : List Int := memsTo m 64
theorem memsTo_succ (m j : Nat) : memsTo m (j + 1) = memsTo m j ++ if m.testBit j then [(j : Int)] else [] := by
  unfold memsTo
  rw [List.range_succ, List.filter_append, List.map_append]
  congr 1
  cases h : m.testBit j <;> simp [List.filter_cons, h]
theorem memsTo_length (m j : Nat) : (memsTo m j).length ≤ j := by
  unfold memsTo
  rw [List.length_map]
  exact Nat.le_trans (List.length_filter_le _ _) (by simp)
theorem testBit_out {m j i : Nat} (h : m / 2 ^ j = 0) (hi : j ≤ i) : m.testBit i = false := by
  have h1 : m < 2 ^ j := by
    rcases Nat.lt_or_ge m (2 ^ j) with h1 | h1
    · exact h1
    · have := Nat.div_pos h1 (Nat.pow_pos (by decide)); omega
  exact Nat.testBit_lt_two_pow (Nat.lt_of_lt_of_le h1 (Nat.pow_le_pow_right (by decide) hi))
theorem memsTo_end {m j : Nat} (h : m / 2 ^ j = 0) (hj : j ≤ 64) : memsTo m j = mems m := by
  unfold mems
  obtain ⟨d, hd⟩ : ∃ d, 64 = j + d := ⟨64 - j, by omega⟩
  rw [hd]
  clear hd hj
  induction d with
  | zero => rfl
  | succ d ih => rw [← Nat.add_assoc, memsTo_succ, ← ih, testBit_out h (by omega)]; simp
theorem div_cast (m j : Nat) : (m : Int) / 2 ^ j = ((m / 2 ^ j : Nat) : Int) := by rw [cast_two_pow]; exact (Int.natCast_ediv _ _).symm
theorem testBit_form (m i : Nat) (hm : m < 9223372036854775808) : (bits .and .i64 ((m : Int) / 2 ^ i) 1 == 1) = m.testBit i := by
  have h := i64_and_nat (m / 2 ^ i) 1 (Nat.lt_of_le_of_lt (Nat.div_le_self _ _) hm) (by decide)
  rw [div_cast]
  have h2 : ((1 : Nat) : Int) = 1 := rfl
  rw [h2] at h
  rw [h, Nat.and_one_is_mod, Nat.testBit_eq_decide_div_mod_eq, Bool.eq_iff_iff, beq_iff_eq, decide_eq_true_eq]
  omega
/- Contracts of chapter 2: the variables of a formula, as a mask. -/
/-- the mask of the variables among some nodes -/
def vmask (xs : List Nd) : Nat := xs.foldl (fun m n => if n.1 = 0 then m ||| 2 ^ n.2.toNat else m) 0
/- Contracts of chapter 1's functions on masks: members. -/
theorem impl_has (m i : Nat) (w : World) (hm : m < 9223372036854775808) (hi : i ≤ 63) :
    Calls Tryz.prog 74 #[.int .i64 m, .int .i64 i] w fun e w' => e = .returned (.bool (m.testBit i)) ∧ w = w' := by
  have E := Lib.hid (testBit_form m i hm)
  go_enter Tryz.func74, Tryz.ntmps74
  go_wp2
  go_ret
  exact ⟨by rw [← E.out]; rfl, rfl⟩
theorem impl_membersOf (m : Nat) (w : World) (hm : m < 9223372036854775808) :
    Calls Tryz.prog 42 #[.int .i64 m] w fun e w' => ∃ v, e = .returned v ∧ Ow cI 2 w.heap.size w' v (mems m) ∧ Below w.heap.size w w' := by
  go_enter Tryz.func42, Tryz.ntmps42
  go_wp2
  go_loopw [3, 4] (fun v i wr => ∃ j : Nat, j ≤ 63 ∧ i = .int .i64 j ∧ Ow cI 2 w.heap.size wr v (memsTo m j) ∧ Below w.heap.size w wr) (fun _ i _ => 64 - (intOf i).toNat)
  case atStart => exact ⟨0, by omega, rfl, Ow.nil _ _, Below.refl _ _⟩
  case round =>
    obtain ⟨j, hj, rfl, ho, hb⟩ := hrel
    have hlen := memsTo_length m j
    have hsz := hb.size
    by_cases hp : 0 < (m : Int) / 2 ^ j
    · have hj2 : j ≤ 62 := by
        rcases Nat.lt_or_ge 62 j with h1 | h1
        · have h2 : j = 63 := by omega
          rw [div_cast, h2] at hp
          have h3 : m / 2 ^ 63 = 0 := Nat.div_eq_of_lt (by omega)
          rw [h3] at hp
          exact absurd hp (by decide)
        · exact h1
      have HS := Lib.hid (memsTo_succ m j)
      have O := Lib.hid ho; clear ho
      have HB := Lib.hid hb; clear hb
      go_wp2_with fail
      refine (impl_has m j _ hm (by omega)).mono ?_
      rintro e w1 ⟨rfl, rfl⟩
      by_cases ht : m.testBit j = true
      · rw [ht] at HS ⊢
        clear ht
        go_wp2_with (at_builtin; refine stopHere ?_)
        refine goHere ?_
        refine ap_one (K := cI) _ ty_int64 rfl _ _ rfl (xs := memsTo m j) rfl O.out j rfl rfl (by omega) hsz ?_
        intro v1 w1 ho1 hg1 hb1 hat1
        have O1 := Lib.hid ho1
        have HB1 := Lib.hid (HB.out.trans hb1)
        clear ho1 hg1 hb1 hat1
        go_wp2
        go_roundw
        case rel => exact ⟨j + 1, by omega, by go_num, by rw [HS.out]; exact O1.out, HB1.out⟩
        case measure => simp [intOf]; omega
      · rw [Bool.not_eq_true] at ht
        rw [ht] at HS ⊢
        clear ht
        go_wp2
        go_roundw
        case rel => exact ⟨j + 1, by omega, by go_num, by rw [HS.out]; simpa using O.out, HB.out⟩
        case measure => simp [intOf]; omega
    · have he : memsTo m j = mems m := memsTo_end (by rw [div_cast] at hp; exact Nat.le_zero.1 (Int.ofNat_le.1 (Int.not_lt.1 hp))) (by omega)
      have HE := Lib.hid he; clear he
      have O := Lib.hid ho; clear ho
      have HB := Lib.hid hb; clear hb
      go_wp2
      go_ret
      exact ⟨_, rfl, by rw [← HE.out]; exact O.out, HB.out⟩
theorem spec_l01List (m : Nat) (w : World) (hm : m < 9223372036854775808) :
    Calls Tryz.prog 143 #[.int .i64 m] w fun e w' => ∃ v, e = .returned v ∧ Ow cI 2 w.heap.size w' v (mems m) ∧ Below w.heap.size w w' := by
  go_enter Tryz.func143, Tryz.ntmps143
  go_wp2
  go_loopw [0, 3, 4] (fun x v i wr => ∃ j : Nat, j ≤ 63 ∧ x = .int .i64 ((m / 2 ^ j : Nat) : Int) ∧ i = .int .i64 j ∧ Ow cI 2 w.heap.size wr v (memsTo m j) ∧ Below w.heap.size w wr) (fun _ _ i _ => 64 - (intOf i).toNat)
  case atStart => exact ⟨0, by omega, by simp, rfl, Ow.lit [] rfl rfl (Nat.le_refl _), (Below.refl _ _).alloc (Nat.le_refl _) _⟩
  case round =>
    obtain ⟨j, hj, rfl, rfl, ho, hb⟩ := hrel
    have hlen := memsTo_length m j
    have hsz := hb.size
    have h2 : m / 2 ^ (j + 1) = m / 2 ^ j / 2 := by rw [Nat.pow_succ, Nat.div_div_eq_div_mul]
    have H2 := Lib.hid h2; clear h2
    have h3 : m.testBit j = decide (m / 2 ^ j % 2 = 1) := Nat.testBit_eq_decide_div_mod_eq
    have h4 : m / 2 ^ 63 = 0 := Nat.div_eq_of_lt (by omega)
    have h5 : m / 2 ^ j ≤ m := Nat.div_le_self _ _
    have h6 : 0 < m / 2 ^ j → j ≤ 62 := by
      intro hp
      rcases Nat.lt_or_ge 62 j with h1 | h1
      · have h2 : j = 63 := by omega
        subst h2
        omega
      · exact h1
    have h7 : m / 2 ^ j = 0 → memsTo m j = mems m := fun h => memsTo_end h (by omega)
    have HS := Lib.hid (memsTo_succ m j)
    rw [h3] at HS
    clear h3 h4
    have H7 := Lib.hid h7; clear h7
    have H6 := Lib.hid h6; clear h6
    generalize m / 2 ^ j = q at *
    have O := Lib.hid ho; clear ho
    have HB := Lib.hid hb; clear hb
    by_cases hp : 0 < q
    · have hj2 := H6.out hp
      by_cases ht : q % 2 = 1
      · have ht' : ((q : Int) % 2 == 1) = true := by simp; omega
        rw [decide_eq_true ht] at HS
        clear ht
        go_wp2_with (at_builtin; refine stopHere ?_)
        refine goHere ?_
        refine ap_one (K := cI) _ ty_int64 rfl _ _ rfl (xs := memsTo m j) rfl O.out j rfl rfl (by omega) hsz ?_
        intro v1 w1 ho1 hg1 hb1 hat1
        have O1 := Lib.hid ho1
        have HB1 := Lib.hid (HB.out.trans hb1)
        clear ho1 hg1 hb1 hat1
        go_wp2
        go_roundw
        case rel => exact ⟨j + 1, by omega, by rw [H2.out]; rfl, by go_num, by rw [HS.out]; exact O1.out, HB1.out⟩
        case measure => simp [intOf]; omega
      · have ht' : ((q : Int) % 2 == 1) = false := by simp; omega
        rw [decide_eq_false ht] at HS
        clear ht
        go_wp2
        go_roundw
        case rel => exact ⟨j + 1, by omega, by rw [H2.out]; rfl, by go_num, by rw [HS.out]; simpa using O.out, HB.out⟩
        case measure => simp [intOf]; omega
    · have he := Lib.hid (H7.out (by omega))
      go_wp2
      go_ret
      exact ⟨_, rfl, by rw [← he.out]; exact O.out, HB.out⟩
/- Contracts of IsLetterless, of the program and of the reference. -/
/- Contracts of chapter 2: the parts of a formula, which share its memory. -/
/-- a cut of a slice reads as the cut of its list -/
theorem Sl.cut {α : Type} {K : Cod α} {w : World} {A : Option Addr} {n c : Nat} {xs : List α} (h : Sl K w (.slice A n c) xs) {i j c' : Nat} (hij : i ≤ j) (hj : j ≤ xs.length) (hc : j - i ≤ c') (hm : c' ≤ 9223372036854775807) :
    Sl K w (.slice (A.map (·.add (i * K.size))) (j - i) c') ((xs.drop i).take (j - i)) := by
  obtain ⟨A', c0, hv, _, _, hr⟩ := h
  injection hv with hA _ _
  subst hA
  refine ⟨_, c', by rw [List.length_take, List.length_drop]; congr 1; omega, by simp; omega, hm, ?_⟩
  rw [flat_take, flat_drop]
  exact (hr.drop _).take _
/-- the same, address and length spelled as the walk spells them -/
theorem Sl.cutAt {α : Type} {K : Cod α} {w : World} {A A' : Option Addr} {n n' c : Nat} {xs : List α} (h : Sl K w (.slice A n c) xs) {i j c' : Nat} (hij : i ≤ j) (hj : j ≤ xs.length) (hn : n' = j - i)
    (hA' : ∀ b o, A = some ⟨b, o, none⟩ → A' = some ⟨b, o + i * K.size, none⟩) (hc : n' ≤ c') (hm : c' ≤ 9223372036854775807) :
    Sl K w (.slice A' n' c') ((xs.drop i).take (j - i)) := by
  obtain ⟨A0, c0, hv, _, _, hr⟩ := h
  injection hv with hA _ _
  subst hA
  have hl : ((xs.drop i).take (j - i)).length = n' := by simp; omega
  refine ⟨_, c', by rw [hl], by rw [hl]; exact hc, hm, ?_⟩
  rcases hr with hr | ⟨b, o, hA, hb, hcell⟩
  · left
    rw [flat_take, flat_drop, hr]
    simp
  · rw [hA' b o hA, flat_take, flat_drop]
    have := ((show Rd w A (flat K xs) from .inr ⟨b, o, hA, hb, hcell⟩).drop (i * K.size)).take ((j - i) * K.size)
    rw [hA] at this
    simpa [add_lit] using this
theorem Sl.cap {α : Type} {K : Cod α} {w : World} {A : Option Addr} {n c : Nat} {xs : List α} (h : Sl K w (.slice A n c) xs) : n = xs.length ∧ xs.length ≤ c ∧ c ≤ 9223372036854775807 := by
  obtain ⟨A', c0, hv, h1, h2, _⟩ := h
  injection hv with _ hn hc
  subst hc
  exact ⟨hn, h1, h2⟩
/-- the empty list is read anywhere -/
theorem Sl.empty {α : Type} {K : Cod α} {w : World} (A : Option Addr) (c : Nat) (hm : c ≤ 9223372036854775807) : Sl K w (.slice A 0 c) ([] : List α) := ⟨A, c, rfl, Nat.zero_le _, hm, .inl rfl⟩
/- Plain words of chapter 32: the ranks at which a formula is true, as masks and as rows. No program in sight. -/
/-- the mask of the numbers below k that p lets -/
def msk (p : Nat → Bool) : Nat → Nat
  | 0 => 0
  | k + 1 => msk p k ||| if p k then 2 ^ k else 0
theorem msk_testBit (p : Nat → Bool) (k i : Nat) : (msk p k).testBit i = (decide (i < k) && p i) := by
  induction k with
  | zero => simp [msk]
  | succ k ih =>
    rw [msk, Nat.testBit_or, ih]
    by_cases h : p k = true
    · rw [if_pos h, Nat.testBit_two_pow]
      by_cases hi : i = k
      · subst hi; simp [h]
      · rw [decide_eq_false (show ¬ k = i from fun e => hi e.symm), Bool.or_false]
        congr 1
        rw [Bool.eq_iff_iff, decide_eq_true_eq, decide_eq_true_eq]
        omega
    · rw [if_neg h, Nat.zero_testBit, Bool.or_false]
      rw [Bool.not_eq_true] at h
      by_cases hi : i = k
      · subst hi; simp [h]
      · congr 1
        rw [Bool.eq_iff_iff, decide_eq_true_eq, decide_eq_true_eq]
        omega
theorem msk_lt (p : Nat → Bool) (k : Nat) : msk p k < 2 ^ k := by
  induction k with
  | zero => simp [msk]
  | succ k ih =>
    rw [msk]
    have h1 : msk p k < 2 ^ (k + 1) := Nat.lt_of_lt_of_le ih (Nat.pow_le_pow_right (by decide) (by omega))
    refine Nat.or_lt_two_pow h1 ?_
    split
    · exact Nat.pow_lt_pow_right (by decide) (by omega)
    · exact Nat.pow_pos (by decide)
theorem msk_ext {a b : Nat} (k : Nat) (ha : a < 2 ^ k) (hb : b < 2 ^ k) (h : ∀ i, i < k → a.testBit i = b.testBit i) : a = b := by
  apply Nat.eq_of_testBit_eq
  intro i
  by_cases hi : i < k
  · exact h i hi
  · rw [Nat.testBit_lt_two_pow (Nat.lt_of_lt_of_le ha (Nat.pow_le_pow_right (by decide) (by omega))), Nat.testBit_lt_two_pow (Nat.lt_of_lt_of_le hb (Nat.pow_le_pow_right (by decide) (by omega)))]
theorem msk_congr (p q : Nat → Bool) (k : Nat) (h : ∀ i, i < k → p i = q i) : msk p k = msk q k :=
  msk_ext k (msk_lt _ _) (msk_lt _ _) fun i hi => by rw [msk_testBit, msk_testBit, h i hi]
/-- a without b -/
def andnot (a b : Nat) : Nat := a ^^^ (a &&& b)
theorem andnot_testBit (a b i : Nat) : (andnot a b).testBit i = (a.testBit i && !b.testBit i) := by
  rw [andnot, Nat.testBit_xor, Nat.testBit_and]
  cases a.testBit i <;> cases b.testBit i <;> rfl

/-- the ranks at which a formula is true, if its variables are true at the ranks of a mask -/
def rk : Fm → Nat → Nat → Bool
  | .var _, vs, n => vs.testBit n
  | .fls, _, _ => false
  | .bin .and a b, vs, n => rk a vs n && rk b vs n
  | .bin .or a b, vs, n => rk a vs n || rk b vs n
  | .bin .imp a b, vs, n => !rk a vs n || rk b vs n
  | .un .box a, vs, n => (List.range n).all (rk a vs)
  | .un .dia a, vs, n => (List.range n).any (rk a vs)
theorem i64_andNot_nat (a b : Nat) (ha : a < 9223372036854775808) (hb : b < 9223372036854775808) : bits .andNot .i64 (a : Int) (b : Int) = ((andnot a b : Nat) : Int) := by
  have hx : andnot a b < 2 ^ 63 := by
    rw [andnot]
    exact Nat.xor_lt_two_pow (by omega) (Nat.and_lt_two_pow _ (by omega))
  show IntKind.i64.wrap ((BitVec.ofInt 64 (a : Int) &&& ~~~ BitVec.ofInt 64 (b : Int)).toNat : Int) = _
  have h1 : (BitVec.ofInt 64 (a : Int) &&& ~~~ BitVec.ofInt 64 (b : Int)).toNat = andnot a b := by
    apply Nat.eq_of_testBit_eq
    intro i
    rw [andnot_testBit, BitVec.toNat_and, Nat.testBit_and, ofInt_i64 a ha]
    by_cases hi : i < 64
    · congr 1
      rw [BitVec.testBit_toNat, BitVec.getLsbD_not, decide_eq_true hi, Bool.true_and, ← BitVec.testBit_toNat, ofInt_i64 b hb]
    · rw [Nat.testBit_lt_two_pow (Nat.lt_of_lt_of_le ha (by
        have := Nat.pow_le_pow_right (n := 2) (by decide) (show 63 ≤ i by omega)
        simpa using this))]
      rfl
  rw [h1, IntKind.wrap_i64]
  omega
end Go.Proofs.YtgkogfjifcfkoaaGreat

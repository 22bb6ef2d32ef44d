/- Contracts of UniquenessFormula, of the program and of the reference. -/
import Derived.Test.Ytbejakkcdbhmaaa34a
namespace Go.Proofs.Ytbejakkcdbhmaaa
open Go.RowKit
set_option linter.unusedVariables false
set_option linter.unusedSimpArgs false
theorem vmask_bit (xs : List Nd) (n : Nat) : (vmask xs).testBit n = xs.any fun x => x.1 == 0 && x.2.toNat == n := by
  have key : ∀ (xs : List Nd) (m : Nat), (xs.foldl (fun m n => if n.1 = 0 then m ||| 2 ^ n.2.toNat else m) m).testBit n = (m.testBit n || xs.any fun x => x.1 == 0 && x.2.toNat == n) := by
    intro xs
    induction xs with
    | nil => intro m; simp
    | cons x t ih =>
      intro m
      rw [List.foldl_cons, ih, List.any_cons]
      by_cases hx : x.1 = 0
      · rw [if_pos hx, Nat.testBit_or, Nat.testBit_two_pow]
        have e1 : (x.1 == 0) = true := by simp [hx]
        rw [e1, Bool.true_and, Bool.or_assoc]
        congr 2
      · rw [if_neg hx]
        have e1 : (x.1 == 0) = false := by simp [hx]
        rw [e1, Bool.false_and, Bool.false_or]
  have := key xs 0
  simpa [vmask] using this
/-- does a node of a variable occur? -/
def occ (xs : List Nd) (t : Int) : Bool := xs.any fun x => x.1 == 0 && x.2 == t
theorem occ_bit (xs : List Nd) (n : Nat) (h : ∀ x ∈ xs, isNd x = true) : occ xs n = (vmask xs).testBit n := by
  rw [vmask_bit]
  unfold occ
  induction xs with
  | nil => rfl
  | cons x t ih =>
    have key : (x.1 == 0 && x.2 == (n : Int)) = (x.1 == 0 && x.2.toNat == n) := by
      by_cases hx : x.1 = 0
      · have := h x List.mem_cons_self
        simp [isNd, hx, inR] at this
        rw [Bool.eq_iff_iff]
        simp [hx]
        omega
      · rw [show (x.1 == 0) = false from beq_eq_false_iff_ne.2 hx]
        rfl
    rw [List.any_cons, List.any_cons, ih fun y hy => h y (List.mem_cons_of_mem _ hy), key]
/-- the formula that says that two formulas imply each other -/
def eqL (v a : List Nd) : List Nd := [(2, 0)] ++ ([(4, 0)] ++ v ++ a) ++ ([(4, 0)] ++ a ++ v)
def unE (a : List Nd) (s : Nat) : List Nd := eqL [(0, (s : Int))] a
def unG (a : List Nd) (s t : Nat) : List Nd := repL (unE a s) s [(0, (t : Int))]
def unL (a : List Nd) (s t : Nat) : List Nd := [(4, 0)] ++ ((5, 0) :: ([(2, 0)] ++ unE a s ++ unG a s t)) ++ ((5, 0) :: ([(4, 0)] ++ [(0, (s : Int))] ++ [(0, (t : Int))]))
theorem unE_length (a : List Nd) (s : Nat) (h : a.length ≤ 40) : (unE a s).length ≤ 90 := by simp [unE, eqL]; omega
theorem unG_length (a : List Nd) (s t : Nat) (h : a.length ≤ 40) : (unG a s t).length ≤ 90 := by
  have h1 := repL_length (unE a s) s [(0, (t : Int))] 1 (by omega) (by simp)
  have h2 := unE_length a s h
  unfold unG
  omega
theorem unE_nodes (f : Fm) (s : Nat) (hok : f.ok = true) (hs : s ≤ 5) : ∀ n ∈ unE (enc f) s, isNd n = true := by
  have := enc_nodes (.bin .and (.bin .imp (.var s) f) (.bin .imp f (.var s))) (by simp [Fm.ok, hok, hs])
  simpa [enc, unE, eqL, BK.i] using this
theorem Sl2.two' {α : Type} {K : Cod α} {w : World} {A B : Option Addr} {n c m d : Nat} {xs ys : List α} (h : Sl K w (.slice A n c) xs) (h' : Sl K w (.slice B m d) ys) (e : TypeId) (g : Nat) (hg : g = w.heap.size) :
    Sl2 K (w.alloc (.cells #[.slice A n c, .slice B m d] e)) (.slice (some ⟨g, 0, none⟩) 2 2) [xs, ys] := by subst hg; exact Sl2.two h h' e
theorem impl_prefix (k : Int) (u : Value) (ys : List Nd) (w : World) (h' : Sl cN w u ys) (hl' : ys.length ≤ 262144) :
    Calls Try.prog 148 #[.int .i64 k, u] w fun e w' => ∃ r, e = .returned r ∧ Ow cN 95 w.heap.size w' r ((k, 0) :: ys) ∧ Below w.heap.size w w' := by
  obtain ⟨B, d, rfl⟩ := h'.opn
  have hs := Sl2.two' ((Ow.lit (K := cN) (e := 95) (B := w.heap.size) [(k, 0)] (cs := #[.int .i64 k, .int .i64 0]) (n := 1) rfl rfl (Nat.le_refl _)).sl) (h'.alloc (.cells #[.int .i64 k, .int .i64 0] 95)) 24 (w.heap.size + 1) (by simp)
  have H := Lib.hid (slices_Concat_nodes _ _ _ hs (by simp) (by simp <;> omega))
  clear h' hs
  go_enter Try.func148, Try.ntmps148
  go_wp2_with fail
  refine H.out.mono ?_
  rintro e w1 ⟨r, rfl, ho, hb⟩
  have HB : Hid (Below w.heap.size w w1) := Lib.hid ((((Below.refl _ _).alloc (Nat.le_refl _) _).alloc (by simp) _).trans (hb.mono (by simp <;> omega)))
  have O : Hid (Ow cN 95 w.heap.size w1 r ((k, 0) :: ys)) := Lib.hid (by have := ho.mono (B' := w.heap.size) (by simp <;> omega); simpa using this)
  clear ho hb
  go_wp2
  go_ret
  exact ⟨_, rfl, O.out, HB.out⟩
theorem impl_boxed (u : Value) (ys : List Nd) (w : World) (h' : Sl cN w u ys) (hl' : ys.length ≤ 262144) :
    Calls Try.prog 88 #[u] w fun e w' => ∃ r, e = .returned r ∧ Ow cN 95 w.heap.size w' r ((5, 0) :: ys) ∧ Below w.heap.size w w' := by
  have H := Lib.hid (impl_prefix 5 u ys w h' hl')
  clear h'
  go_enter Try.func88, Try.ntmps88
  go_wp2_with fail
  refine H.out.mono ?_
  rintro e w1 ⟨r, rfl, ho, hb⟩
  have O := Lib.hid ho
  have HB := Lib.hid hb
  clear ho hb
  go_wp2
  go_ret
  exact ⟨_, rfl, O.out, HB.out⟩
/-- the two states of the loop of arrow at two formulas -/
def ArS (w : World) (xs ys : List Nd) (o i : Value) (wr : World) : Prop :=
  (i = .int .i64 0 ∧ Sl cN w o ys ∧ wr = w) ∨ (i = .int .i64 (-1) ∧ Ow cN 95 w.heap.size wr o ([(4, 0)] ++ xs ++ ys) ∧ Below w.heap.size w wr)
theorem impl_arrow2 (v : Value) (xs ys : List Nd) (w : World) (h : Sl2 cN w v [xs, ys]) (hl : xs.length ≤ 262144) (hl' : ys.length ≤ 262144) :
    Calls Try.prog 87 #[v] w fun e w' => ∃ r, e = .returned r ∧ Ow cN 95 w.heap.size w' r ([(4, 0)] ++ xs ++ ys) ∧ Below w.heap.size w w' := by
  obtain ⟨A, c, rfl⟩ := h.opn
  obtain ⟨b, o, A0, n0, c0, rfl, hb, hc0, hs0⟩ := h.at_ (k := 0) (by simp)
  obtain ⟨b', o', A1, n1, c1, hA, hb', hc1, hs1⟩ := h.at_ (k := 1) (by simp)
  injection hA with hA
  injection hA with h1 h2 _
  subst h1
  subst h2
  simp only [List.getElem_cons_zero, List.getElem_cons_succ, Nat.add_zero, List.length_cons, List.length_nil, Nat.zero_add] at hc0 hc1 hs0 hs1 ⊢
  have S0 := Lib.hid hs0
  have S1 := Lib.hid hs1
  clear h hs0 hs1
  go_enter Try.func87, Try.ntmps87
  go_wp2
  go_loopw [3, 4] (fun o i wr => ArS w xs ys o i wr) (fun _ i _ => (intOf i + 1).toNat)
  case atStart => exact .inl ⟨rfl, S1.out, rfl⟩
  case round =>
    rcases hrel with ⟨rfl, hs, rfl⟩ | ⟨rfl, ho, hb⟩
    · have HS := Lib.hid hs
      clear hs
      go_wp2_with fail
      refine (impl_join 4 _ _ _ _ _ S0.out HS.out hl hl').mono ?_
      rintro e w1 ⟨r, rfl, ho, hb1⟩
      have O := Lib.hid ho
      have HB := Lib.hid hb1
      clear ho hb1
      go_wp2
      go_roundw
      case rel => exact .inr ⟨rfl, O.out, HB.out⟩
      case measure => simp [intOf]
    · have O := Lib.hid ho
      have HB := Lib.hid hb
      clear ho hb
      go_wp2
      go_ret
      exact ⟨_, rfl, O.out, HB.out⟩
/-- arrow at two formulas laid as a list -/
theorem impl_arrow_of {A B : Option Addr} {n c m d : Nat} (xs ys : List Nd) (w : World) (h : Sl cN w (.slice A n c) xs) (h' : Sl cN w (.slice B m d) ys) (hl : xs.length ≤ 262144) (hl' : ys.length ≤ 262144) (g : Nat) (hg : g = w.heap.size) :
    Calls Try.prog 87 #[.slice (some ⟨g, 0, none⟩) 2 2] (w.alloc (.cells #[.slice A n c, .slice B m d] 24)) fun e w' => ∃ r, e = .returned r ∧ Ow cN 95 w.heap.size w' r ([(4, 0)] ++ xs ++ ys) ∧ Below w.heap.size w w' := by
  subst hg
  exact (impl_arrow2 _ xs ys _ (Sl2.two h h' 24) hl hl').mono fun e w' ⟨r, he, ho, hb⟩ => ⟨r, he, ho.mono (by simp), ((Below.refl _ _).alloc (Nat.le_refl _) _).trans (hb.mono (by simp))⟩
theorem impl_equality (v u : Value) (xs ys : List Nd) (w : World) (h : Sl cN w v xs) (h' : Sl cN w u ys) (hl : xs.length ≤ 4096) (hl' : ys.length ≤ 4096) :
    Calls Try.prog 83 #[v, u] w fun e w' => ∃ r, e = .returned r ∧ Ow cN 95 w.heap.size w' r (eqL xs ys) ∧ Below w.heap.size w w' := by
  obtain ⟨A, c, rfl⟩ := h.opn
  obtain ⟨B, d, rfl⟩ := h'.opn
  have Hh := Lib.hid h
  have Hh' := Lib.hid h'
  clear h h'
  go_enter Try.func83, Try.ntmps83
  go_wp2_with fail
  refine (impl_arrow_of xs ys _ Hh.out Hh'.out (by omega) (by omega) _ rfl).mono ?_
  rintro e w1 ⟨r, rfl, ho, hb⟩
  have O1 := Lib.hid ho
  have HB := Lib.hid hb
  clear ho hb
  go_wp2_with fail
  refine (impl_arrow_of ys xs _ (Hh'.out.below HB.out) (Hh.out.below HB.out) (by omega) (by omega) _ rfl).mono ?_
  rintro e w2 ⟨r2, rfl, ho, hb⟩
  have O2 := Lib.hid ho
  have O1' := Lib.hid (O1.out.below hb)
  have HB2 := Lib.hid (bthen HB.out hb)
  clear ho hb
  go_wp2_with fail
  refine (impl_join 2 _ _ _ _ _ O1'.out.sl O2.out.sl (by simp <;> omega) (by simp <;> omega)).mono ?_
  rintro e w3 ⟨r3, rfl, ho, hb⟩
  have O3 : Hid (Ow cN 95 w.heap.size w3 r3 (eqL xs ys)) := Lib.hid (ho.mono HB2.out.size)
  have HB3 := Lib.hid (bthen HB2.out hb)
  clear ho hb
  go_wp2
  go_ret
  exact ⟨_, rfl, O3.out, HB3.out⟩
theorem spec_l33Equal (v u : Value) (xs ys : List Nd) (w : World) (h : Sl cN w v xs) (h' : Sl cN w u ys) (hl : xs.length ≤ 4096) (hl' : ys.length ≤ 4096) :
    Calls Try.prog 71 #[v, u] w fun e w' => ∃ r, e = .returned r ∧ Ow cN 95 w.heap.size w' r (eqL xs ys) ∧ Below w.heap.size w w' := by
  have Hh := Lib.hid h
  have Hh' := Lib.hid h'
  clear h h'
  go_enter Try.func71, Try.ntmps71
  go_wp2_with fail
  refine (spec_l02Pair 4 _ _ xs ys _ Hh.out Hh'.out (by omega) (by omega)).mono ?_
  rintro e w1 ⟨r, rfl, ho, hb⟩
  have O1 := Lib.hid ho
  have HB := Lib.hid hb
  clear ho hb
  go_wp2_with fail
  refine (spec_l02Pair 4 _ _ ys xs _ (Hh'.out.below HB.out) (Hh.out.below HB.out) (by omega) (by omega)).mono ?_
  rintro e w2 ⟨r2, rfl, ho, hb⟩
  have O2 := Lib.hid ho
  have O1' := Lib.hid (O1.out.below hb)
  have HB2 := Lib.hid (bthen HB.out hb)
  clear ho hb
  go_wp2_with fail
  refine (spec_l02Pair 2 _ _ _ _ _ O1'.out.sl O2.out.sl (by simp <;> omega) (by simp <;> omega)).mono ?_
  rintro e w3 ⟨r3, rfl, ho, hb⟩
  have O3 : Hid (Ow cN 95 w.heap.size w3 r3 (eqL xs ys)) := Lib.hid (ho.mono HB2.out.size)
  have HB3 := Lib.hid (bthen HB2.out hb)
  clear ho hb
  go_wp2
  go_ret
  exact ⟨_, rfl, O3.out, HB3.out⟩
theorem spec_l33Occurs (v : Value) (xs : List Nd) (t : Int) (w : World) (h : Sl cN w v xs) (hl : xs.length ≤ 1073741824) :
    Calls Try.prog 70 #[v, .int .i64 t] w fun e w' => e = .returned (.bool (occ xs t)) ∧ w = w' := by
  obtain ⟨A, c, rfl⟩ := h.opn
  go_enter Try.func70, Try.ntmps70
  go_wp2
  go_loop [5] (fun i => ∃ j : Nat, j ≤ xs.length ∧ i = .int .i64 j ∧ occ (xs.take j) t = false) (fun i => xs.length - (intOf i).toNat)
  case atStart => exact ⟨0, Nat.zero_le _, rfl, rfl⟩
  case round =>
    obtain ⟨j, hj, rfl, hh⟩ := hrel
    have Hh := Lib.hid hh; clear hh
    by_cases hlt : j < xs.length
    · obtain ⟨b, o, rfl, hbl, hc0, hc1⟩ := h.atN hlt
      have HT : Hid (occ (xs.take (j + 1)) t = (xs[j].1 == 0 && xs[j].2 == t)) := Lib.hid (by
        have := Hh.out
        unfold occ at this ⊢
        rw [List.take_succ_eq_append_getElem hlt, List.any_append, this]
        simp)
      have HA : Hid ((xs[j].1 == 0 && xs[j].2 == t) = true → occ xs t = true) := Lib.hid fun h1 => List.any_eq_true.2 ⟨_, List.getElem_mem hlt, h1⟩
      generalize xs[j] = x at *
      obtain ⟨x1, x2⟩ := x
      simp only at hc0 hc1 HT HA
      cases e1 : (x1 == 0)
      · rw [e1, Bool.false_and] at HT
        go_wp2
        go_round
        case rel => exact ⟨j + 1, by omega, by go_num, HT.out⟩
        case measure => simp [intOf]; omega
      · cases e2 : (x2 == t)
        · rw [e1, e2, Bool.true_and] at HT
          go_wp2
          go_round
          case rel => exact ⟨j + 1, by omega, by go_num, HT.out⟩
          case measure => simp [intOf]; omega
        · have HO := Lib.hid (HA.out (by rw [e1, e2]; rfl))
          go_wp2
          go_ret
          exact ⟨by rw [HO.out]; rfl, rfl⟩
    · have HO : Hid (occ xs t = false) := Lib.hid (by have := Hh.out; rwa [List.take_of_length_le (by omega)] at this)
      go_wp2
      go_ret
      exact ⟨by rw [HO.out]; rfl, rfl⟩
end Go.Proofs.Ytbejakkcdbhmaaa

/- Joined of several texts: 32c, 32x, 32y, 32z, 32z2, 32z3. -/
import Derived.Test.YtgcoohlakcncbaaGreatB1
import Derived.Test.YtgcoohlakcncbaaGreatB3
namespace Go.Proofs.YtgcoohlakcncbaaGreat
open Go.RowKit
set_option linter.unusedVariables false
set_option linter.unusedSimpArgs false
/- Contracts of ChainFrame, of the program and of the reference. -/
theorem impl_frameOf (v : Value) (xs : List Int) (w : World) (h : Sl cI w v xs) :
    Calls Tryz.prog 118 #[v] w fun e w' => e = .returned (.agg #[.int .i64 xs.length, v]) ∧ Below w.heap.size w w' := by
  obtain ⟨A, c, rfl⟩ := h.opn
  go_enter Tryz.func118, Tryz.ntmps118
  go_wp2_with fail
  refine (impl_size_int64 _ xs _ (h.alloc _)).mono ?_
  rintro e w1 ⟨rfl, rfl⟩
  go_wp2
  refine bodyPost_ret (v := .agg #[.int .i64 xs.length, .slice A xs.length c]) (by simp [results, Tryz.results118, go_sem]) rfl ⟨rfl, ?_⟩
  repeat (first | exact Below.refl _ _ | refine Below.alloc ?_ (by simp <;> omega) _ | refine below_drewN ?_ _)
theorem spec_l01Own (v : Value) (xs : List Int) (w : World) (h : Sl cI w v xs) (hl : xs.length ≤ 1073741824) :
    Calls Tryz.prog 196 #[v] w fun e w' => ∃ u, e = .returned u ∧ Ow cI 2 w.heap.size w' u xs ∧ Below w.heap.size w w' := by
  obtain ⟨A, c, rfl⟩ := h.opn
  go_enter Tryz.func196, Tryz.ntmps196
  go_wp2_with (at_builtin; refine stopHere ?_)
  refine goHere ?_
  refine ap_sl (K := cI) _ ty_int64 rfl _ _ rfl rfl rfl (B := w.heap.size) (xs := []) (news := xs) (Ow.lit [] rfl rfl (Nat.le_refl _)) (h.alloc _) (by simp <;> omega) (by simp) ?_
  intro v1 w1 ho hg hb hat
  have hb' : Below w.heap.size w w1 := ((Below.refl _ _).alloc (Nat.le_refl _) _).trans hb
  have O := Lib.hid ho; clear ho hg hb hat
  go_wp2
  go_ret
  exact ⟨_, rfl, O.out, hb'⟩
theorem spec_l05Make (v : Value) (xs : List Int) (w : World) (h : Sl cI w v xs) (hl : xs.length ≤ 1073741824) :
    Calls Tryz.prog 120 #[v] w fun e w' => ∃ u, e = .returned (.agg #[.int .i64 xs.length, u]) ∧ Ow cI 2 w.heap.size w' u xs ∧ Below w.heap.size w w' := by
  obtain ⟨A, c, rfl⟩ := h.opn
  go_enter Tryz.func120, Tryz.ntmps120
  go_wp2_with fail
  refine (spec_l01Own _ xs _ (h.alloc _) hl).mono ?_
  rintro e w1 ⟨u, rfl, ho, hb⟩
  obtain ⟨A', c', rfl⟩ := ho.opn
  obtain ⟨k1, k2, k3⟩ := kept_blk hb
  have O := Lib.hid ho; clear ho
  have HB := Lib.hid hb; clear hb
  go_wp2
  refine bodyPost_ret (v := .agg #[.int .i64 xs.length, .slice A' xs.length c']) (by simp [results, Tryz.results120, go_sem, k1, k2, k3]) rfl ⟨_, rfl, ?_, ?_⟩
  · exact ((O.out.setBelow (by simp) _).setBelow (by simp) _).mono (by simp)
  · exact ((((Below.refl _ _).alloc (Nat.le_refl _) _).trans (HB.out.mono (by simp))).setCell (Nat.le_refl _) _).setCell (Nat.le_refl _) _
/-- the arrows of a chain -/
def chL (n : Nat) : List Int := (List.range n).map fun w => (2 : Int) ^ w - 1
theorem chL_length (n : Nat) : (chL n).length = n := by simp [chL]
theorem chL_snoc (n : Nat) : chL (n + 1) = chL n ++ [2 ^ n - 1] := by simp [chL, List.range_succ]
/-- what ChainFrame says: the frame's arrows, and the code -/
def chOk (n : Int) : Bool := inR n 0 8
theorem impl_ChainFrame_no (n : Int) (w : World) (h : ¬ (0 ≤ n ∧ n ≤ 8)) :
    Calls Tryz.prog 42 #[.int .i64 n] w fun e w' => e = .returned (.tuple #[.agg #[.int .i64 0, .slice none 0 0], .int .i64 2]) ∧ Below w.heap.size w w' := by
  have hf := inR_false h
  have hf' : (!inR n 0 8) = true := by rw [hf]; rfl
  go_enter Tryz.func42, Tryz.ntmps42
  go_wp2_with fail
  refine (impl_inRange n 0 8 _).mono ?_
  rintro e w1 ⟨rfl, rfl⟩
  rw [hf]
  go_wp2
  refine bodyPost_ret (v := .tuple #[.agg #[.int .i64 0, .slice none 0 0], .int .i64 2]) (by simp [results, Tryz.results42, go_sem]) rfl ⟨rfl, ?_⟩
  repeat (first | exact Below.refl _ _ | refine Below.alloc ?_ (by simp <;> omega) _ | refine Below.setCell ?_ (by simp <;> omega) _ | refine below_drewN ?_ _)
theorem impl_ChainFrame (n : Nat) (w : World) (h : n ≤ 8) :
    Calls Tryz.prog 42 #[.int .i64 n] w fun e w' => ∃ v, e = .returned (.tuple #[.agg #[.int .i64 n, v], .int .i64 0]) ∧ Ow cI 2 w.heap.size w' v (chL n) ∧ Below w.heap.size w w' := by
  have hf := inR_true (x := (n : Int)) (l := 0) (h := 8) (by omega) (by omega)
  have HF := Lib.hid hf; clear hf
  go_enter Tryz.func42, Tryz.ntmps42
  go_wp2_with fail
  refine (impl_inRange n 0 8 _).mono ?_
  rintro e w1 ⟨rfl, rfl⟩
  rw [HF.out]
  go_wp2
  go_loopw [4, 11] (fun v i wr => ∃ k : Nat, k ≤ n ∧ i = .int .i64 k ∧ Ow cI 2 (w.heap.size + 1) wr v (chL k) ∧ Below (w.heap.size + 1) (w.alloc (.cells #[.int .i64 0, .slice none 0 0] 63)) wr) (fun _ i _ => n - (intOf i).toNat)
  case atStart => exact ⟨0, Nat.zero_le _, rfl, Ow.nil _ _, Below.refl _ _⟩
  case round =>
    obtain ⟨k, hk, rfl, ho, hb⟩ := hrel
    have hsz := hb.size
    simp at hsz
    by_cases hlt : k < n
    · have h2 := two_pow_le (n := k) (by omega)
      have h3 : (0 : Int) < 2 ^ k := Int.pow_pos (by decide)
      have hw := wrap_two_pow (n := k) (by omega)
      go_wp2_with (at_builtin; refine stopHere ?_)
      refine goHere ?_
      refine ap_one (K := cI) _ ty_int64 rfl _ _ rfl (xs := chL k) rfl ho (2 ^ k - 1) rfl rfl (by simp [chL_length]; omega) (by omega) ?_
      intro v1 w1 ho1 hg1 hb1 hat1
      rw [← chL_snoc] at ho1
      have hb2 := hb.trans hb1
      clear ho hb hb1 hg1 hat1
      go_wp2
      go_roundw
      case rel => exact ⟨k + 1, by omega, by go_num, ho1, hb2⟩
      case measure => simp [intOf]; omega
    · obtain rfl : k = n := by omega
      have k1 : ∀ i, wr.cell? ⟨w.heap.size, i, none⟩ = #[Value.int .i64 0, Value.slice none 0 0][i]? := (kept_blk (by simpa using hb)).1
      have k2 : ∀ i, wr.frozen? ⟨w.heap.size, i, none⟩ = false := (kept_blk (by simpa using hb)).2.1
      have HB := Lib.hid hb; clear hb
      obtain ⟨A, c, rfl⟩ := ho.opn
      have O := Lib.hid ho; clear ho
      go_wp2_with fail
      refine (impl_frameOf _ _ _ O.out.sl).mono ?_
      rintro e w2 ⟨rfl, hb2⟩
      have j1 : ∀ i, w2.cell? ⟨w.heap.size, i, none⟩ = #[Value.int .i64 0, Value.slice none 0 0][i]? := fun i => (hb2.cell (p := ⟨w.heap.size, i, none⟩) (by show w.heap.size < _; omega)).trans (k1 i)
      have j2 : ∀ i, w2.frozen? ⟨w.heap.size, i, none⟩ = false := fun i => (hb2.frozen (p := ⟨w.heap.size, i, none⟩) (by show w.heap.size < _; omega)).trans (k2 i)
      have O2 := Lib.hid (O.out.below hb2)
      have HB2 := Lib.hid (HB.out.trans (hb2.mono hsz))
      clear hb2 O HB k1 k2
      rw [chL_length]
      go_wp2
      refine bodyPost_ret (v := .tuple #[.agg #[.int .i64 k, .slice A k c], .int .i64 0]) (by simp [results, Tryz.results42, go_sem, j1, j2]) rfl ⟨_, rfl, ?_, ?_⟩
      · have := O2.out
        rw [chL_length] at this
        exact ((this.setBelow (by simp) _).setBelow (by simp) _).mono (by simp)
      · exact ((((Below.refl _ _).alloc (Nat.le_refl _) _).trans (HB2.out.mono (by simp))).setCell (Nat.le_refl _) _).setCell (Nat.le_refl _) _
theorem spec_ChainFrame_no (n : Int) (w : World) (h : ¬ (0 ≤ n ∧ n ≤ 8)) :
    Calls Tryz.prog 43 #[.int .i64 n] w fun e w' => e = .returned (.tuple #[.agg #[.int .i64 0, .slice none 0 0], .int .i64 2]) ∧ Below w.heap.size w w' := by
  have hf := inR_false h
  have hf' : (!inR n 0 8) = true := by rw [hf]; rfl
  go_enter Tryz.func43, Tryz.ntmps43
  go_wp2_with fail
  refine (spec_l01In n 0 8 _).mono ?_
  rintro e w1 ⟨rfl, rfl⟩
  rw [hf]
  go_wp2
  refine bodyPost_ret (v := .tuple #[.agg #[.int .i64 0, .slice none 0 0], .int .i64 2]) (by simp [results, Tryz.results43, go_sem]) rfl ⟨rfl, ?_⟩
  repeat (first | exact Below.refl _ _ | refine Below.alloc ?_ (by simp <;> omega) _ | refine Below.setCell ?_ (by simp <;> omega) _ | refine below_drewN ?_ _)
theorem spec_ChainFrame (n : Nat) (w : World) (h : n ≤ 8) :
    Calls Tryz.prog 43 #[.int .i64 n] w fun e w' => ∃ v, e = .returned (.tuple #[.agg #[.int .i64 n, v], .int .i64 0]) ∧ Ow cI 2 w.heap.size w' v (chL n) ∧ Below w.heap.size w w' := by
  have hf := inR_true (x := (n : Int)) (l := 0) (h := 8) (by omega) (by omega)
  have HF := Lib.hid hf; clear hf
  go_enter Tryz.func43, Tryz.ntmps43
  go_wp2_with fail
  refine (spec_l01In n 0 8 _).mono ?_
  rintro e w1 ⟨rfl, rfl⟩
  rw [HF.out]
  go_wp2

  go_loopw [4, 5] (fun v i wr => ∃ k : Nat, k ≤ n ∧ i = .int .i64 k ∧ Ow cI 2 (w.heap.size + 1) wr v (chL k) ∧ Below (w.heap.size + 1) (w.alloc (.cells #[.int .i64 0, .slice none 0 0] 63)) wr) (fun _ i _ => n - (intOf i).toNat)
  case atStart => exact ⟨0, Nat.zero_le _, rfl, Ow.lit' [] (by simp) rfl rfl (Nat.le_refl _), (Below.refl _ _).alloc (by simp) _⟩
  case round =>
    obtain ⟨k, hk, rfl, ho, hb⟩ := hrel
    have hsz := hb.size
    simp at hsz
    by_cases hlt : k < n
    · have h2 := two_pow_le (n := k) (by omega)
      have h3 : (0 : Int) < 2 ^ k := Int.pow_pos (by decide)
      go_wp2_with fail
      refine (spec_l01Full _ _ (by omega) (by omega)).mono ?_
      rintro e w2 ⟨rfl, rfl⟩
      rw [Int.toNat_natCast]
      go_wp2_with (at_builtin; refine stopHere ?_)
      refine goHere ?_
      refine ap_one (K := cI) _ ty_int64 rfl _ _ rfl (xs := chL k) rfl ho (2 ^ k - 1) rfl rfl (by simp [chL_length]; omega) (by omega) ?_
      intro v1 w1 ho1 hg1 hb1 hat1
      rw [← chL_snoc] at ho1
      have hb2 := hb.trans hb1
      clear ho hb hb1 hg1 hat1
      go_wp2
      go_roundw
      case rel => exact ⟨k + 1, by omega, by go_num, ho1, hb2⟩
      case measure => simp [intOf]; omega
    · obtain rfl : k = n := by omega
      have k1 : ∀ i, wr.cell? ⟨w.heap.size, i, none⟩ = #[Value.int .i64 0, Value.slice none 0 0][i]? := (kept_blk (by simpa using hb)).1
      have k2 : ∀ i, wr.frozen? ⟨w.heap.size, i, none⟩ = false := (kept_blk (by simpa using hb)).2.1
      have HB := Lib.hid hb; clear hb
      obtain ⟨A, c, rfl⟩ := ho.opn
      have O := Lib.hid ho; clear ho
      go_wp2_with fail
      refine (spec_l05Make _ _ _ O.out.sl (by rw [chL_length]; omega)).mono ?_
      rintro e w2 ⟨u, rfl, ho2, hb2⟩
      obtain ⟨A', c', rfl⟩ := ho2.opn
      have j1 : ∀ i, w2.cell? ⟨w.heap.size, i, none⟩ = #[Value.int .i64 0, Value.slice none 0 0][i]? := fun i => (hb2.cell (p := ⟨w.heap.size, i, none⟩) (by show w.heap.size < _; omega)).trans (k1 i)
      have j2 : ∀ i, w2.frozen? ⟨w.heap.size, i, none⟩ = false := fun i => (hb2.frozen (p := ⟨w.heap.size, i, none⟩) (by show w.heap.size < _; omega)).trans (k2 i)
      have O2 := Lib.hid (ho2.mono hsz)
      have HB2 := Lib.hid (HB.out.trans (hb2.mono hsz))
      clear ho2 hb2 O HB k1 k2
      rw [chL_length]
      go_wp2
      refine bodyPost_ret (v := .tuple #[.agg #[.int .i64 k, .slice A' k c'], .int .i64 0]) (by simp [results, Tryz.results43, go_sem, j1, j2]) rfl ⟨_, rfl, ?_, ?_⟩
      · have := O2.out
        rw [chL_length] at this
        exact ((this.setBelow (by simp) _).setBelow (by simp) _).mono (by simp)
      · exact ((((Below.refl _ _).alloc (Nat.le_refl _) _).trans (HB2.out.mono (by simp))).setCell (Nat.le_refl _) _).setCell (Nat.le_refl _) _
/-- what ChainFrame gives: the number of worlds, the arrows, the code -/
def chOut (n : Int) : Int × List Int × Int := if 0 ≤ n ∧ n ≤ 8 then (n, chL n.toNat, 0) else (0, [], 2)
theorem chOut_len (n : Int) : (chOut n).2.1.length ≤ 8 := by
  unfold chOut
  split
  · rename_i h
    simp only [chL_length]
    omega
  · simp
theorem impl_ChainFrame_out (n : Int) (w : World) :
    Calls Tryz.prog 42 #[.int .i64 n] w fun e w' => ∃ v, e = .returned (.tuple #[.agg #[.int .i64 (chOut n).1, v], .int .i64 (chOut n).2.2]) ∧ Ow cI 2 w.heap.size w' v (chOut n).2.1 ∧ Below w.heap.size w w' := by
  unfold chOut
  by_cases h : 0 ≤ n ∧ n ≤ 8
  · rw [if_pos h]
    obtain ⟨m, rfl⟩ := Int.eq_ofNat_of_zero_le h.1
    exact impl_ChainFrame m w (by omega)
  · rw [if_neg h]
    exact (impl_ChainFrame_no n w h).mono fun e w' ⟨he, hb⟩ => ⟨_, he, Ow.nil _ _, hb⟩
theorem spec_ChainFrame_out (n : Int) (w : World) :
    Calls Tryz.prog 43 #[.int .i64 n] w fun e w' => ∃ v, e = .returned (.tuple #[.agg #[.int .i64 (chOut n).1, v], .int .i64 (chOut n).2.2]) ∧ Ow cI 2 w.heap.size w' v (chOut n).2.1 ∧ Below w.heap.size w w' := by
  unfold chOut
  by_cases h : 0 ≤ n ∧ n ≤ 8
  · rw [if_pos h]
    obtain ⟨m, rfl⟩ := Int.eq_ofNat_of_zero_le h.1
    exact spec_ChainFrame m w (by omega)
  · rw [if_neg h]
    exact (spec_ChainFrame_no n w h).mono fun e w' ⟨he, hb⟩ => ⟨_, he, Ow.nil _ _, hb⟩
/- Contracts of the test of a Trace, of the program and of the reference. -/
/-- rank i of a Trace stands well -/
def goodT (xs : List Int) (i : Nat) : Bool := inR (xs.getD i 0) 0 60 && (decide (i = 0) || decide (xs.getD (i - 1) 0 < xs.getD i 0))
def okT (xs : List Int) : Bool := (List.range xs.length).all (goodT xs)
theorem okT_true {xs : List Int} (h : ∀ i < xs.length, goodT xs i = true) : okT xs = true := by
  unfold okT
  rw [List.all_eq_true]
  exact fun i hi => h i (List.mem_range.1 hi)
theorem okT_false {xs : List Int} {i : Nat} (hi : i < xs.length) (h : goodT xs i = false) : okT xs = false := by
  unfold okT
  rw [List.all_eq_false]
  exact ⟨i, List.mem_range.2 hi, by rw [h]; decide⟩
theorem goodT_zero {xs : List Int} (h : 0 < xs.length) : goodT xs 0 = inR xs[0] 0 60 := by
  simp [goodT, List.getD_eq_getElem?_getD, h]
theorem goodT_succ {xs : List Int} {k : Nat} (h : k + 1 < xs.length) : goodT xs (k + 1) = (inR xs[k + 1] 0 60 && decide (xs[k] < xs[k + 1])) := by
  simp [goodT, List.getD_eq_getElem?_getD, h, show k < xs.length from by omega]
theorem Sl.atI2 {w : World} {A : Option Addr} {n c : Nat} {xs : List Int} (h : Sl cI w (.slice A n c) xs) {k : Nat} (hk : k + 1 < xs.length) :
    ∃ b o, A = some ⟨b, o, none⟩ ∧ b < w.heap.size ∧ w.cell? ⟨b, o + k, none⟩ = some (.int .i64 xs[k]) ∧ w.cell? ⟨b, o + (k + 1), none⟩ = some (.int .i64 xs[k + 1]) := by
  obtain ⟨b, o, rfl, hb, h0⟩ := h.atI (k := k) (by omega)
  obtain ⟨b', o', e, hb', h1⟩ := h.atI (k := k + 1) hk
  injection e with e
  injection e with e1 e2
  subst e1 e2
  exact ⟨b, o, rfl, hb, h0, h1⟩
/-- the test of a range within a region that draws, behind draws -/
theorem q_l01In {x l h : Int} {b : Bool} (hq : inR x l h = b) (W : World) (q n : Nat) :
    Calls Tryz.prog 55 #[.int .i64 x, .int .i64 l, .int .i64 h] (W.drewN (q + n)) fun e w'' => e = .returned (.bool b) ∧ ∃ m, w'' = W.drewN (q + m) :=
  (spec_l01In x l h _).mono fun e w' hh => ⟨by rw [hh.1, hq], n, hh.2.symm⟩
/- Contracts of ComplementTrace, of the program and of the reference. -/
theorem far2 {w : World} {p q a b : Addr} {x y u v : Value} (h0 : w.cell? p = some x) (h1 : w.cell? q = some y) (hp : a.block ≠ p.block) (hq : a.block ≠ q.block) (hab : b.block = a.block := by rfl) :
    ((w.setCell a u).setCell b v).cell? p = some x ∧ ((w.setCell a u).setCell b v).cell? q = some y := by
  rw [World.cell?_setCell_far _ _ _ _ (hab ▸ hp), World.cell?_setCell_far _ _ _ _ hp, World.cell?_setCell_far _ _ _ _ (hab ▸ hq), World.cell?_setCell_far _ _ _ _ hq]
  exact ⟨h0, h1⟩
/- Contracts of BoxTrace and what it calls, of the program and of the reference. -/
def shL (n : Nat) : List Int := (List.range n).map fun (i : Nat) => (i : Int)
theorem shL_length (n : Nat) : (shL n).length = n := by simp [shL]
theorem shL_snoc (n : Nat) : shL (n + 1) = shL n ++ [(n : Int)] := by simp [shL, List.range_succ]
/-- the first rank that does not belong to a Trace, as the reference seeks it: to 62 -/
def fsT (b : Bool) (xs : List Int) : Nat → Nat → Nat
  | 0, n => n
  | k + 1, n => if (decide ((n : Int) ∈ xs) == b) = true then fsT b xs k (n + 1) else n
theorem fsT_le (b : Bool) (xs : List Int) (k : Nat) : ∀ n, fsT b xs k n ≤ n + k := by
  induction k with
  | zero => intro n; simp [fsT]
  | succ k ih => intro n; rw [fsT]; split; have := ih (n + 1); omega; omega
/- Contracts of BoxTrace of the reference. Written by gen32z2.py. -/
/- The plain law of BoxTrace: the program's first false rank is the reference's. -/
theorem okT_at {xs : List Int} (h : okT xs = true) {i : Nat} (hi : i < xs.length) : goodT xs i = true := by
  unfold okT at h
  rw [List.all_eq_true] at h
  exact h i (List.mem_range.2 hi)
theorem okT_mem {xs : List Int} (h : okT xs = true) {x : Int} (hx : x ∈ xs) : 0 ≤ x ∧ x ≤ 60 := by
  obtain ⟨i, hi, rfl⟩ := List.getElem_of_mem hx
  have := okT_at h hi
  simp only [goodT, inR, Bool.and_eq_true, decide_eq_true_eq, List.getD_eq_getElem?_getD, List.getElem?_eq_getElem hi, Option.getD_some] at this
  omega
theorem okT_asc {xs : List Int} (h : okT xs = true) : xs.Pairwise (· < ·) := by
  rw [List.pairwise_iff_getElem]
  intro i j hi hj hij
  induction j with
  | zero => omega
  | succ k ih =>
    have h1 := okT_at h hj
    rw [goodT_succ hj, Bool.and_eq_true, decide_eq_true_eq] at h1
    by_cases he : i = k
    · subst he; exact h1.2
    · have := ih (by omega) (by omega)
      omega
theorem ffL_ge (L : List Int) : ∀ i : Int, i ≤ ffL L i := by
  induction L with
  | nil => intro i; exact Int.le_refl _
  | cons x t ih =>
    intro i
    rw [ffL]
    split
    · have := ih (i + 1); omega
    · exact Int.le_refl _
theorem fsT_true (F : List Int) (k : Nat) : ∀ (n : Nat) (L : List Int), L.Pairwise (· < ·) → (∀ x ∈ L, (n : Int) ≤ x) → (∀ m : Int, (n : Int) ≤ m → (m ∈ F ↔ m ∈ L)) → (fsT true F k n : Int) = min ((n + k : Nat) : Int) (ffL L n) := by
  induction k with
  | zero => intro n L _ _ _; have := ffL_ge L n; simp only [fsT]; omega
  | succ k ih =>
    intro n L hp hge hm
    have hge' := ffL_ge L n
    cases L with
    | nil =>
      have hn : ¬ (n : Int) ∈ F := by rw [hm n (Int.le_refl _)]; simp
      rw [fsT, if_neg (by simp [hn])]
      simp only [ffL]; omega
    | cons x t =>
      have hx := hge x List.mem_cons_self
      rw [List.pairwise_cons] at hp
      by_cases he : x = (n : Int)
      · have hn : (n : Int) ∈ F := by rw [hm n (Int.le_refl _), he]; exact List.mem_cons_self
        rw [fsT, if_pos (by simp [hn]), ih (n + 1) t hp.2 (fun y hy => by have := hp.1 y hy; omega) (fun m hmn => by
          rw [hm m (by omega), List.mem_cons]
          constructor
          · rintro (h | h)
            · omega
            · exact h
          · exact fun h => .inr h), ffL, if_pos he]
        rw [show ((n + 1 : Nat) : Int) = (n : Int) + 1 from by omega]
        omega
      · have hn : ¬ (n : Int) ∈ F := by
          rw [hm n (Int.le_refl _), List.mem_cons]
          rintro (h | h)
          · exact he h.symm
          · have := hp.1 _ h; omega
        rw [fsT, if_neg (by simp [hn]), ffL, if_neg he]
        omega
theorem fsT_false (F : List Int) (x : Int) (hx : x ∈ F) (hmin : ∀ y ∈ F, x ≤ y) (k : Nat) : ∀ n : Nat, (n : Int) ≤ x → (fsT false F k n : Int) = min ((n + k : Nat) : Int) x := by
  induction k with
  | zero => intro n hn; simp only [fsT]; omega
  | succ k ih =>
    intro n hn
    by_cases he : (n : Int) = x
    · rw [fsT, if_neg (by simp [he, hx])]; omega
    · have hnf : ¬ (n : Int) ∈ F := fun h => by have := hmin _ h; omega
      rw [fsT, if_pos (by simp [hnf]), ih (n + 1) (by omega)]
      omega
/-- the two ways to seek it agree, where the Trace is not of all ranks -/
theorem ff_fs {b : Bool} {xs : List Int} (h : okT xs = true) (hA : (!b && decide (xs.length = 0)) = false) :
    (fsT b xs 62 0 ≤ 60 → ffT b xs = fsT b xs 62 0) ∧ (60 < fsT b xs 62 0 → 60 < ffT b xs) := by
  cases b
  · cases xs with
    | nil => simp at hA
    | cons x t =>
      have hp := okT_asc h
      rw [List.pairwise_cons] at hp
      have h1 := okT_mem h (x := x) List.mem_cons_self
      have h2 := fsT_false (x :: t) x List.mem_cons_self (fun y hy => by
        rcases List.mem_cons.1 hy with e | e
        · omega
        · have := hp.1 y e; omega) 62 0 (by omega)
      have h3 : ffT false (x :: t) = x := rfl
      rw [h3]
      omega
  · have h2 := fsT_true xs 62 0 xs (okT_asc h) (fun x hx => by have := okT_mem h hx; omega) (fun m _ => Iff.rfl)
    have h3 : ffT true xs = ffL xs 0 := rfl
    rw [h3]
    rw [show ((0 : Nat) : Int) = 0 from rfl] at h2
    omega
end Go.Proofs.YtgcoohlakcncbaaGreat

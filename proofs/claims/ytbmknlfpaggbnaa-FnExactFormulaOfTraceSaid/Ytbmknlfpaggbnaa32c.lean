/- Contracts of ChainFrame, of the program and of the reference. -/
import Derived.Test.Ytbmknlfpaggbnaa01
namespace Go.Proofs.Ytbmknlfpaggbnaa
open Go.RowKit
set_option linter.unusedVariables false
set_option linter.unusedSimpArgs false
theorem impl_frameOf (v : Value) (xs : List Int) (w : World) (h : Sl cI w v xs) :
    Calls Try.prog 56 #[v] w fun e w' => e = .returned (.agg #[.int .i64 xs.length, v]) ∧ Below w.heap.size w w' := by
  obtain ⟨A, c, rfl⟩ := h.opn
  go_enter Try.func56, Try.ntmps56
  go_wp2_with fail
  refine (impl_size_int64 _ xs _ (h.alloc _)).mono ?_
  rintro e w1 ⟨rfl, rfl⟩
  go_wp2
  refine bodyPost_ret (v := .agg #[.int .i64 xs.length, .slice A xs.length c]) (by simp [results, Try.results56, go_sem]) rfl ⟨rfl, ?_⟩
  repeat (first | exact Below.refl _ _ | refine Below.alloc ?_ (by simp <;> omega) _ | refine below_drewN ?_ _)
theorem spec_l01Own (v : Value) (xs : List Int) (w : World) (h : Sl cI w v xs) (hl : xs.length ≤ 1073741824) :
    Calls Try.prog 62 #[v] w fun e w' => ∃ u, e = .returned u ∧ Ow cI 2 w.heap.size w' u xs ∧ Below w.heap.size w w' := by
  obtain ⟨A, c, rfl⟩ := h.opn
  go_enter Try.func62, Try.ntmps62
  go_wp2_with (at_builtin; refine stopHere ?_)
  refine goHere ?_
  refine ap_sl (K := cI) _ ty_int64 rfl _ _ rfl rfl rfl (B := w.heap.size) (xs := []) (news := xs) (Ow.lit [] rfl rfl (Nat.le_refl _)) (h.alloc _) (by simp <;> omega) (by simp) ?_
  intro v1 w1 ho hg hb hat
  have hb' : Below w.heap.size w w1 := ((Below.refl _ _).alloc (Nat.le_refl _) _).trans hb
  have O := Lib.hid ho; clear ho hg hb hat
  go_wp2
  go_ret
  exact ⟨_, rfl, O.out, hb'⟩
theorem slices_Clone_int64 (v : Value) (xs : List Int) (w : World) (h : Sl cI w v xs) (hl : xs.length ≤ 1073741824) :
    Calls Try.prog 65 #[v] w fun e w' => ∃ u, e = .returned u ∧ Ow cI 2 w.heap.size w' u xs ∧ Below w.heap.size w w' := by
  obtain ⟨A, c, rfl⟩ := h.opn
  by_cases hA : A = none
  · subst hA
    obtain rfl := h.none_nil
    have hq := fun W : World => Lib.run_eql_slice_nil (P := Try.prog) W 22 2 none 0 c 0 0 Try.underlying22
    go_enter Try.func65, Try.ntmps65
    go_wp2_with (at_builtin; refine stopHere ?_)
    go_ret
    exact ⟨_, rfl, Ow.nil _ _, Below.refl _ _⟩
  · obtain ⟨ad, rfl⟩ := Option.ne_none_iff_exists'.1 hA
    clear hA
    have hq := fun W : World => Lib.run_eql_slice_nil (P := Try.prog) W 22 2 (some ad) xs.length c 0 0 Try.underlying22
    go_enter Try.func65, Try.ntmps65
    go_wp2_with (at_builtin; refine stopHere ?_)
    refine goHere ?_
    refine ap_sl (K := cI) _ ty_int64 rfl _ _ rfl rfl rfl (B := w.heap.size) (xs := []) (news := xs) (Ow.lit [] rfl rfl (Nat.le_refl _)) (h.alloc _) (by simp <;> omega) (by simp) ?_
    intro v1 w1 ho hg hb hat
    have hb' : Below w.heap.size w w1 := ((Below.refl _ _).alloc (Nat.le_refl _) _).trans hb
    have O := Lib.hid ho; clear ho hg hb hat
    go_wp2
    go_ret
    exact ⟨_, rfl, O.out, hb'⟩
theorem spec_l05Make (v : Value) (xs : List Int) (w : World) (h : Sl cI w v xs) (hl : xs.length ≤ 1073741824) :
    Calls Try.prog 54 #[v] w fun e w' => ∃ u, e = .returned (.agg #[.int .i64 xs.length, u]) ∧ Ow cI 2 w.heap.size w' u xs ∧ Below w.heap.size w w' := by
  obtain ⟨A, c, rfl⟩ := h.opn
  go_enter Try.func54, Try.ntmps54
  go_wp2_with fail
  refine (spec_l01Own _ xs _ (h.alloc _) hl).mono ?_
  rintro e w1 ⟨u, rfl, ho, hb⟩
  obtain ⟨A', c', rfl⟩ := ho.opn
  obtain ⟨k1, k2, k3⟩ := kept_blk hb
  have O := Lib.hid ho; clear ho
  have HB := Lib.hid hb; clear hb
  go_wp2
  refine bodyPost_ret (v := .agg #[.int .i64 xs.length, .slice A' xs.length c']) (by simp [results, Try.results54, go_sem, k1, k2, k3]) rfl ⟨_, rfl, ?_, ?_⟩
  · exact ((O.out.setBelow (by simp) _).setBelow (by simp) _).mono (by simp)
  · exact ((((Below.refl _ _).alloc (Nat.le_refl _) _).trans (HB.out.mono (by simp))).setCell (Nat.le_refl _) _).setCell (Nat.le_refl _) _
/-- the arrows of a chain -/
def chL (n : Nat) : List Int := (List.range n).map fun w => (2 : Int) ^ w - 1
theorem chL_length (n : Nat) : (chL n).length = n := by simp [chL]
theorem chL_snoc (n : Nat) : chL (n + 1) = chL n ++ [2 ^ n - 1] := by simp [chL, List.range_succ]
/-- what ChainFrame says: the frame's arrows, and the code -/
def chOk (n : Int) : Bool := inR n 0 8
theorem impl_ChainFrame_no (n : Int) (w : World) (h : ¬ (0 ≤ n ∧ n ≤ 8)) :
    Calls Try.prog 16 #[.int .i64 n] w fun e w' => e = .returned (.tuple #[.agg #[.int .i64 0, .slice none 0 0], .int .i64 2]) ∧ Below w.heap.size w w' := by
  have hf := inR_false h
  have hf' : (!inR n 0 8) = true := by rw [hf]; rfl
  go_enter Try.func16, Try.ntmps16
  go_wp2_with fail
  refine (impl_inRange n 0 8 _).mono ?_
  rintro e w1 ⟨rfl, rfl⟩
  rw [hf]
  go_wp2
  refine bodyPost_ret (v := .tuple #[.agg #[.int .i64 0, .slice none 0 0], .int .i64 2]) (by simp [results, Try.results16, go_sem]) rfl ⟨rfl, ?_⟩
  repeat (first | exact Below.refl _ _ | refine Below.alloc ?_ (by simp <;> omega) _ | refine Below.setCell ?_ (by simp <;> omega) _ | refine below_drewN ?_ _)
theorem impl_ChainFrame (n : Nat) (w : World) (h : n ≤ 8) :
    Calls Try.prog 16 #[.int .i64 n] w fun e w' => ∃ v, e = .returned (.tuple #[.agg #[.int .i64 n, v], .int .i64 0]) ∧ Ow cI 2 w.heap.size w' v (chL n) ∧ Below w.heap.size w w' := by
  have hf := inR_true (x := (n : Int)) (l := 0) (h := 8) (by omega) (by omega)
  have HF := Lib.hid hf; clear hf
  go_enter Try.func16, Try.ntmps16
  go_wp2_with fail
  refine (impl_inRange n 0 8 _).mono ?_
  rintro e w1 ⟨rfl, rfl⟩
  rw [HF.out]
  go_wp2
  go_loopw [4, 11] (fun v i wr => ∃ k : Nat, k ≤ n ∧ i = .int .i64 k ∧ Ow cI 2 (w.heap.size + 1) wr v (chL k) ∧ Below (w.heap.size + 1) (w.alloc (.cells #[.int .i64 0, .slice none 0 0] 24)) wr) (fun _ i _ => n - (intOf i).toNat)
  case atStart => exact ⟨0, Nat.zero_le _, rfl, Ow.nil _ _, Below.refl _ _⟩
  case round =>
    obtain ⟨k, hk, rfl, ho, hb⟩ := hrel
    have hsz := hb.size
    simp at hsz
    by_cases hlt : k < n
    · have h2 := two_pow_le (n := k) (by omega)
      have h3 : (0 : Int) < 2 ^ k := Int.pow_pos (by decide)
      have hw := wrap_two_pow (n := k) (by omega)
      go_wp2_with (at_builtin; refine stopHere ?_)
      refine goHere ?_
      refine ap_one (K := cI) _ ty_int64 rfl _ _ rfl (xs := chL k) rfl ho (2 ^ k - 1) rfl rfl (by simp [chL_length]; omega) (by omega) ?_
      intro v1 w1 ho1 hg1 hb1 hat1
      rw [← chL_snoc] at ho1
      have hb2 := hb.trans hb1
      clear ho hb hb1 hg1 hat1
      go_wp2
      go_roundw
      case rel => exact ⟨k + 1, by omega, by go_num, ho1, hb2⟩
      case measure => simp [intOf]; omega
    · obtain rfl : k = n := by omega
      have k1 : ∀ i, wr.cell? ⟨w.heap.size, i, none⟩ = #[Value.int .i64 0, Value.slice none 0 0][i]? := (kept_blk (by simpa using hb)).1
      have k2 : ∀ i, wr.frozen? ⟨w.heap.size, i, none⟩ = false := (kept_blk (by simpa using hb)).2.1
      have HB := Lib.hid hb; clear hb
      obtain ⟨A, c, rfl⟩ := ho.opn
      have O := Lib.hid ho; clear ho
      go_wp2_with fail
      refine (impl_frameOf _ _ _ O.out.sl).mono ?_
      rintro e w2 ⟨rfl, hb2⟩
      have j1 : ∀ i, w2.cell? ⟨w.heap.size, i, none⟩ = #[Value.int .i64 0, Value.slice none 0 0][i]? := fun i => (hb2.cell (p := ⟨w.heap.size, i, none⟩) (by show w.heap.size < _; omega)).trans (k1 i)
      have j2 : ∀ i, w2.frozen? ⟨w.heap.size, i, none⟩ = false := fun i => (hb2.frozen (p := ⟨w.heap.size, i, none⟩) (by show w.heap.size < _; omega)).trans (k2 i)
      have O2 := Lib.hid (O.out.below hb2)
      have HB2 := Lib.hid (HB.out.trans (hb2.mono hsz))
      clear hb2 O HB k1 k2
      rw [chL_length]
      go_wp2
      refine bodyPost_ret (v := .tuple #[.agg #[.int .i64 k, .slice A k c], .int .i64 0]) (by simp [results, Try.results16, go_sem, j1, j2]) rfl ⟨_, rfl, ?_, ?_⟩
      · have := O2.out
        rw [chL_length] at this
        exact ((this.setBelow (by simp) _).setBelow (by simp) _).mono (by simp)
      · exact ((((Below.refl _ _).alloc (Nat.le_refl _) _).trans (HB2.out.mono (by simp))).setCell (Nat.le_refl _) _).setCell (Nat.le_refl _) _
theorem spec_ChainFrame_no (n : Int) (w : World) (h : ¬ (0 ≤ n ∧ n ≤ 8)) :
    Calls Try.prog 15 #[.int .i64 n] w fun e w' => e = .returned (.tuple #[.agg #[.int .i64 0, .slice none 0 0], .int .i64 2]) ∧ Below w.heap.size w w' := by
  have hf := inR_false h
  have hf' : (!inR n 0 8) = true := by rw [hf]; rfl
  go_enter Try.func15, Try.ntmps15
  go_wp2_with fail
  refine (spec_l01In n 0 8 _).mono ?_
  rintro e w1 ⟨rfl, rfl⟩
  rw [hf]
  go_wp2
  refine bodyPost_ret (v := .tuple #[.agg #[.int .i64 0, .slice none 0 0], .int .i64 2]) (by simp [results, Try.results15, go_sem]) rfl ⟨rfl, ?_⟩
  repeat (first | exact Below.refl _ _ | refine Below.alloc ?_ (by simp <;> omega) _ | refine Below.setCell ?_ (by simp <;> omega) _ | refine below_drewN ?_ _)
theorem spec_ChainFrame (n : Nat) (w : World) (h : n ≤ 8) :
    Calls Try.prog 15 #[.int .i64 n] w fun e w' => ∃ v, e = .returned (.tuple #[.agg #[.int .i64 n, v], .int .i64 0]) ∧ Ow cI 2 w.heap.size w' v (chL n) ∧ Below w.heap.size w w' := by
  have hf := inR_true (x := (n : Int)) (l := 0) (h := 8) (by omega) (by omega)
  have HF := Lib.hid hf; clear hf
  go_enter Try.func15, Try.ntmps15
  go_wp2_with fail
  refine (spec_l01In n 0 8 _).mono ?_
  rintro e w1 ⟨rfl, rfl⟩
  rw [HF.out]
  go_wp2

  go_loopw [4, 5] (fun v i wr => ∃ k : Nat, k ≤ n ∧ i = .int .i64 k ∧ Ow cI 2 (w.heap.size + 1) wr v (chL k) ∧ Below (w.heap.size + 1) (w.alloc (.cells #[.int .i64 0, .slice none 0 0] 24)) wr) (fun _ i _ => n - (intOf i).toNat)
  case atStart => exact ⟨0, Nat.zero_le _, rfl, Ow.lit' [] (by simp) rfl rfl (Nat.le_refl _), (Below.refl _ _).alloc (by simp) _⟩
  case round =>
    obtain ⟨k, hk, rfl, ho, hb⟩ := hrel
    have hsz := hb.size
    simp at hsz
    by_cases hlt : k < n
    · have h2 := two_pow_le (n := k) (by omega)
      have h3 : (0 : Int) < 2 ^ k := Int.pow_pos (by decide)
      go_wp2_with fail
      refine (spec_l01Full _ _ (by omega) (by omega)).mono ?_
      rintro e w2 ⟨rfl, rfl⟩
      rw [Int.toNat_natCast]
      go_wp2_with (at_builtin; refine stopHere ?_)
      refine goHere ?_
      refine ap_one (K := cI) _ ty_int64 rfl _ _ rfl (xs := chL k) rfl ho (2 ^ k - 1) rfl rfl (by simp [chL_length]; omega) (by omega) ?_
      intro v1 w1 ho1 hg1 hb1 hat1
      rw [← chL_snoc] at ho1
      have hb2 := hb.trans hb1
      clear ho hb hb1 hg1 hat1
      go_wp2
      go_roundw
      case rel => exact ⟨k + 1, by omega, by go_num, ho1, hb2⟩
      case measure => simp [intOf]; omega
    · obtain rfl : k = n := by omega
      have k1 : ∀ i, wr.cell? ⟨w.heap.size, i, none⟩ = #[Value.int .i64 0, Value.slice none 0 0][i]? := (kept_blk (by simpa using hb)).1
      have k2 : ∀ i, wr.frozen? ⟨w.heap.size, i, none⟩ = false := (kept_blk (by simpa using hb)).2.1
      have HB := Lib.hid hb; clear hb
      obtain ⟨A, c, rfl⟩ := ho.opn
      have O := Lib.hid ho; clear ho
      go_wp2_with fail
      refine (spec_l05Make _ _ _ O.out.sl (by rw [chL_length]; omega)).mono ?_
      rintro e w2 ⟨u, rfl, ho2, hb2⟩
      obtain ⟨A', c', rfl⟩ := ho2.opn
      have j1 : ∀ i, w2.cell? ⟨w.heap.size, i, none⟩ = #[Value.int .i64 0, Value.slice none 0 0][i]? := fun i => (hb2.cell (p := ⟨w.heap.size, i, none⟩) (by show w.heap.size < _; omega)).trans (k1 i)
      have j2 : ∀ i, w2.frozen? ⟨w.heap.size, i, none⟩ = false := fun i => (hb2.frozen (p := ⟨w.heap.size, i, none⟩) (by show w.heap.size < _; omega)).trans (k2 i)
      have O2 := Lib.hid (ho2.mono hsz)
      have HB2 := Lib.hid (HB.out.trans (hb2.mono hsz))
      clear ho2 hb2 O HB k1 k2
      rw [chL_length]
      go_wp2
      refine bodyPost_ret (v := .tuple #[.agg #[.int .i64 k, .slice A' k c'], .int .i64 0]) (by simp [results, Try.results15, go_sem, j1, j2]) rfl ⟨_, rfl, ?_, ?_⟩
      · have := O2.out
        rw [chL_length] at this
        exact ((this.setBelow (by simp) _).setBelow (by simp) _).mono (by simp)
      · exact ((((Below.refl _ _).alloc (Nat.le_refl _) _).trans (HB2.out.mono (by simp))).setCell (Nat.le_refl _) _).setCell (Nat.le_refl _) _
/-- what ChainFrame gives: the number of worlds, the arrows, the code -/
def chOut (n : Int) : Int × List Int × Int := if 0 ≤ n ∧ n ≤ 8 then (n, chL n.toNat, 0) else (0, [], 2)
theorem chOut_len (n : Int) : (chOut n).2.1.length ≤ 8 := by
  unfold chOut
  split
  · rename_i h
    simp only [chL_length]
    omega
  · simp
theorem impl_ChainFrame_out (n : Int) (w : World) :
    Calls Try.prog 16 #[.int .i64 n] w fun e w' => ∃ v, e = .returned (.tuple #[.agg #[.int .i64 (chOut n).1, v], .int .i64 (chOut n).2.2]) ∧ Ow cI 2 w.heap.size w' v (chOut n).2.1 ∧ Below w.heap.size w w' := by
  unfold chOut
  by_cases h : 0 ≤ n ∧ n ≤ 8
  · rw [if_pos h]
    obtain ⟨m, rfl⟩ := Int.eq_ofNat_of_zero_le h.1
    exact impl_ChainFrame m w (by omega)
  · rw [if_neg h]
    exact (impl_ChainFrame_no n w h).mono fun e w' ⟨he, hb⟩ => ⟨_, he, Ow.nil _ _, hb⟩
theorem spec_ChainFrame_out (n : Int) (w : World) :
    Calls Try.prog 15 #[.int .i64 n] w fun e w' => ∃ v, e = .returned (.tuple #[.agg #[.int .i64 (chOut n).1, v], .int .i64 (chOut n).2.2]) ∧ Ow cI 2 w.heap.size w' v (chOut n).2.1 ∧ Below w.heap.size w w' := by
  unfold chOut
  by_cases h : 0 ≤ n ∧ n ≤ 8
  · rw [if_pos h]
    obtain ⟨m, rfl⟩ := Int.eq_ofNat_of_zero_le h.1
    exact spec_ChainFrame m w (by omega)
  · rw [if_neg h]
    exact (spec_ChainFrame_no n w h).mono fun e w' ⟨he, hb⟩ => ⟨_, he, Ow.nil _ _, hb⟩
end Go.Proofs.Ytbmknlfpaggbnaa

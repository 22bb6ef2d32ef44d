/- Contracts of the test of a Trace, of the program and of the reference. -/
import Derived.Test.Ytbejakkcdbhmaaa32q
namespace Go.Proofs.Ytbejakkcdbhmaaa
open Go.RowKit
set_option linter.unusedVariables false
set_option linter.unusedSimpArgs false
/-- rank i of a Trace stands well -/
def goodT (xs : List Int) (i : Nat) : Bool := inR (xs.getD i 0) 0 60 && (decide (i = 0) || decide (xs.getD (i - 1) 0 < xs.getD i 0))
def okT (xs : List Int) : Bool := (List.range xs.length).all (goodT xs)
theorem okT_true {xs : List Int} (h : ∀ i < xs.length, goodT xs i = true) : okT xs = true := by
  unfold okT
  rw [List.all_eq_true]
  exact fun i hi => h i (List.mem_range.1 hi)
theorem okT_false {xs : List Int} {i : Nat} (hi : i < xs.length) (h : goodT xs i = false) : okT xs = false := by
  unfold okT
  rw [List.all_eq_false]
  exact ⟨i, List.mem_range.2 hi, by rw [h]; decide⟩
theorem goodT_zero {xs : List Int} (h : 0 < xs.length) : goodT xs 0 = inR xs[0] 0 60 := by
  simp [goodT, List.getD_eq_getElem?_getD, h]
theorem goodT_succ {xs : List Int} {k : Nat} (h : k + 1 < xs.length) : goodT xs (k + 1) = (inR xs[k + 1] 0 60 && decide (xs[k] < xs[k + 1])) := by
  simp [goodT, List.getD_eq_getElem?_getD, h, show k < xs.length from by omega]
theorem Sl.atI2 {w : World} {A : Option Addr} {n c : Nat} {xs : List Int} (h : Sl cI w (.slice A n c) xs) {k : Nat} (hk : k + 1 < xs.length) :
    ∃ b o, A = some ⟨b, o, none⟩ ∧ b < w.heap.size ∧ w.cell? ⟨b, o + k, none⟩ = some (.int .i64 xs[k]) ∧ w.cell? ⟨b, o + (k + 1), none⟩ = some (.int .i64 xs[k + 1]) := by
  obtain ⟨b, o, rfl, hb, h0⟩ := h.atI (k := k) (by omega)
  obtain ⟨b', o', e, hb', h1⟩ := h.atI (k := k + 1) hk
  injection e with e
  injection e with e1 e2
  subst e1 e2
  exact ⟨b, o, rfl, hb, h0, h1⟩
theorem impl_isTrace (v : Value) (b : Bool) (xs : List Int) (w : World) (h : Sl cI w v xs) (hl : xs.length ≤ 1048576) :
    Calls Try.prog 127 #[.agg #[.bool b, v]] w fun e w' => e = .returned (.bool (okT xs)) ∧ Below w.heap.size w w' := by
  obtain ⟨A, c, rfl⟩ := h.opn
  have hB : Below w.heap.size w (w.alloc (.cells #[.bool b, .slice A xs.length c] 52)) := (Below.refl _ _).alloc (Nat.le_refl _) _
  have h1 := h.alloc (.cells #[.bool b, .slice A xs.length c] 52)
  have HB := Lib.hid hB; have H1 := Lib.hid h1
  clear hB h1
  go_enter Try.func127, Try.ntmps127
  go_wp2
  go_loop [8] (fun i => ∃ j : Nat, j ≤ xs.length ∧ i = .int .i64 j ∧ ∀ n < j, goodT xs n = true) (fun i => xs.length - (intOf i).toNat)
  case atStart => exact ⟨0, Nat.zero_le _, rfl, fun n hn => by omega⟩
  case round =>
    obtain ⟨j, hj, rfl, hh⟩ := hrel
    have Hh := Lib.hid hh; clear hh
    by_cases hlt : j < xs.length
    · cases j with
      | zero =>
        obtain ⟨g, o, rfl, hb, hc0⟩ := H1.out.atI hlt
        simp only [Nat.add_zero] at hc0
        have HG := Lib.hid (goodT_zero hlt)
        cases hq : inR xs[0] 0 60
        · have HQ := Lib.hid (HG.out.trans hq)
          go_wp2_with fail
          refine (impl_inRange _ _ _ _).mono ?_
          rintro e w1 ⟨rfl, rfl⟩
          rw [hq]
          go_wp2
          go_ret
          exact ⟨by rw [okT_false hlt HQ.out]; rfl, HB.out⟩
        · have HQ := Lib.hid (HG.out.trans hq)
          go_wp2_with fail
          refine (impl_inRange _ _ _ _).mono ?_
          rintro e w1 ⟨rfl, rfl⟩
          rw [hq]
          go_wp2
          go_round
          case rel => exact ⟨1, by omega, by go_num, fun n hn => by obtain rfl : n = 0 := by omega
                                                                    exact HQ.out⟩
          case measure => simp [intOf]; omega
      | succ k =>
        obtain ⟨g, o, rfl, hb, hc0, hc1⟩ := H1.out.atI2 hlt
        have HG := Lib.hid (goodT_succ hlt)
        have hpos : decide ((0 : Int) < ((k + 1 : Nat) : Int)) = true := decide_eq_true (by omega)
        have hsub : IntKind.i64.wrap (((k + 1 : Nat) : Int) - 1) = (k : Int) := by rw [show (((k + 1 : Nat) : Int) - 1) = (k : Int) by omega]; exact IntWalk.i64_in _ ⟨by omega, by omega⟩
        cases hq : inR xs[k + 1] 0 60
        · have HQ := Lib.hid (show goodT xs (k + 1) = false by rw [HG.out, hq]; rfl)
          go_wp2_with fail
          refine (impl_inRange _ _ _ _).mono ?_
          rintro e w1 ⟨rfl, rfl⟩
          rw [hq]
          go_wp2
          go_ret
          exact ⟨by rw [okT_false hlt HQ.out]; rfl, HB.out⟩
        · by_cases hx : xs[k] < xs[k + 1]
          · have HQ := Lib.hid (show goodT xs (k + 1) = true by rw [HG.out, hq]; simp [hx])
            have hx' : decide (xs[k + 1] ≤ xs[k]) = false := decide_eq_false (by omega)
            go_wp2_with fail
            refine (impl_inRange _ _ _ _).mono ?_
            rintro e w1 ⟨rfl, rfl⟩
            rw [hq]
            go_wp2
            go_round
            case rel => exact ⟨k + 1 + 1, by omega, by go_num, fun n hn => (Nat.lt_or_ge n (k + 1)).elim (fun h => Hh.out n h) (fun h => (show n = k + 1 by omega) ▸ HQ.out)⟩
            case measure => simp [intOf]; omega
          · have HQ := Lib.hid (show goodT xs (k + 1) = false by rw [HG.out]; simp [hx])
            have hx' : decide (xs[k + 1] ≤ xs[k]) = true := decide_eq_true (by omega)
            go_wp2_with fail
            refine (impl_inRange _ _ _ _).mono ?_
            rintro e w1 ⟨rfl, rfl⟩
            rw [hq]
            go_wp2
            go_ret
            exact ⟨by rw [okT_false hlt HQ.out]; rfl, HB.out⟩
    · obtain rfl : j = xs.length := by omega
      go_wp2
      go_ret
      exact ⟨by rw [okT_true Hh.out]; rfl, HB.out⟩
/-- the test of a range within a region that draws, behind draws -/
theorem q_l01In {x l h : Int} {b : Bool} (hq : inR x l h = b) (W : World) (q n : Nat) :
    Calls Try.prog 69 #[.int .i64 x, .int .i64 l, .int .i64 h] (W.drewN (q + n)) fun e w'' => e = .returned (.bool b) ∧ ∃ m, w'' = W.drewN (q + m) :=
  (spec_l01In x l h _).mono fun e w' hh => ⟨by rw [hh.1, hq], n, hh.2.symm⟩
theorem spec_l32Valid (v : Value) (b : Bool) (xs : List Int) (w : World) (h : Sl cI w v xs) (hl : xs.length ≤ 1048576) :
    Calls Try.prog 125 #[.agg #[.bool b, v]] w fun e w' => e = .returned (.bool (okT xs)) ∧ Below w.heap.size w w' := by
  obtain ⟨A, c, rfl⟩ := h.opn
  have hB : Below w.heap.size w (w.alloc (.cells #[.bool b, .slice A xs.length c] 52)) := (Below.refl _ _).alloc (Nat.le_refl _) _
  have h1 := h.alloc (.cells #[.bool b, .slice A xs.length c] 52)
  have HB := Lib.hid hB; have H1 := Lib.hid h1
  have b1 := Blk.new w 52 #[.bool b, .slice A xs.length c]
  have B1 := Lib.hid b1
  clear hB h1 b1
  go_enter Try.func125, Try.ntmps125
  go_wp2
  go_loopw [3] (fun i wr => ∃ j : Nat, j ≤ xs.length ∧ i = .int .i64 j ∧ (∃ q, wr = (w.alloc (.cells #[.bool b, .slice A xs.length c] 52)).drewN q) ∧ ∀ n < j, goodT xs n = true) (fun i _ => xs.length - (intOf i).toNat)
  case atStart => exact ⟨0, Nat.zero_le _, rfl, ⟨0, rfl⟩, fun n hn => by omega⟩
  case round =>
    obtain ⟨j, hj, rfl, ⟨q, rfl⟩, hh⟩ := hrel
    have Hh := Lib.hid hh; clear hh
    by_cases hlt : j < xs.length
    · cases j with
      | zero =>
        obtain ⟨g, o, rfl, hb, hc0⟩ := H1.out.atI hlt
        simp only [Nat.add_zero] at hc0
        have HG := Lib.hid (goodT_zero hlt)
        cases hq : inR xs[0] 0 60
        · have HQ := Lib.hid (HG.out.trans hq)
          have HC := Lib.hid (q_l01In hq)
          clear hq
          go_wp2
          go_quiet ((go_at_call 69; exact HC.out _ _ _))
          go_wp2
          go_ret
          exact ⟨by rw [okT_false hlt HQ.out]; rfl, below_drewN (below_drewN HB.out _) _⟩
        · have HQ := Lib.hid (HG.out.trans hq)
          have HC := Lib.hid (q_l01In hq)
          clear hq
          go_wp2
          go_quiet ((go_at_call 69; exact HC.out _ _ _))
          go_wp2
          go_roundw
          case rel => exact ⟨1, by omega, by go_num, by first | exact ⟨_, rfl⟩ | exact ⟨_, World.drewN_drewN _ _ _⟩, fun n hn => (show n = 0 by omega) ▸ HQ.out⟩
          case measure => simp [intOf]; omega
      | succ k =>
        obtain ⟨g, o, rfl, hb, hc0, hc1⟩ := H1.out.atI2 hlt
        have HG := Lib.hid (goodT_succ hlt)
        have hpos : decide ((0 : Int) < ((k + 1 : Nat) : Int)) = true := decide_eq_true (by omega)
        have hsub : IntKind.i64.wrap (((k + 1 : Nat) : Int) - 1) = (k : Int) := by rw [show (((k + 1 : Nat) : Int) - 1) = (k : Int) by omega]; exact IntWalk.i64_in _ ⟨by omega, by omega⟩
        cases hq : inR xs[k + 1] 0 60
        · have HQ := Lib.hid (show goodT xs (k + 1) = false by rw [HG.out, hq]; rfl)
          have HC := Lib.hid (q_l01In hq)
          clear hq
          go_wp2
          go_quiet ((go_at_call 69; exact HC.out _ _ _))
          go_wp2
          go_ret
          exact ⟨by rw [okT_false hlt HQ.out]; rfl, below_drewN (below_drewN HB.out _) _⟩
        · by_cases hx : xs[k] < xs[k + 1]
          · have HQ := Lib.hid (show goodT xs (k + 1) = true by rw [HG.out, hq]; simp [hx])
            have hx' : decide (xs[k + 1] ≤ xs[k]) = false := decide_eq_false (by omega)
            have HC := Lib.hid (q_l01In hq)
            clear hq
            go_wp2
            go_quiet ((go_at_call 69; exact HC.out _ _ _))
            go_wp2
            go_roundw
            case rel => exact ⟨k + 1 + 1, by omega, by go_num, by first | exact ⟨_, rfl⟩ | exact ⟨_, World.drewN_drewN _ _ _⟩, fun n hn => (Nat.lt_or_ge n (k + 1)).elim (fun h => Hh.out n h) (fun h => (show n = k + 1 by omega) ▸ HQ.out)⟩
            case measure => simp [intOf]; omega
          · have HQ := Lib.hid (show goodT xs (k + 1) = false by rw [HG.out]; simp [hx])
            have hx' : decide (xs[k + 1] ≤ xs[k]) = true := decide_eq_true (by omega)
            have HC := Lib.hid (q_l01In hq)
            clear hq
            go_wp2
            go_quiet ((go_at_call 69; exact HC.out _ _ _))
            go_wp2
            go_ret
            exact ⟨by rw [okT_false hlt HQ.out]; rfl, below_drewN (below_drewN HB.out _) _⟩
    · obtain rfl : j = xs.length := by omega
      go_wp2
      go_ret
      exact ⟨by rw [okT_true Hh.out]; rfl, below_drewN HB.out _⟩
end Go.Proofs.Ytbejakkcdbhmaaa

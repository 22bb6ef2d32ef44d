/- Contracts of chapters 1, 5 and 6: frames, models, boxes, truth, of the reference. -/
import Derived.Test.Ytbejakkcdbhmaaa05b
import Derived.Test.YtbejakkcdbhmaaaB4
namespace Go.Proofs.Ytbejakkcdbhmaaa
open Go.RowKit
set_option linter.unusedVariables false
set_option linter.unusedSimpArgs false
/-- all are masks of n elements -/
def msks (n : Int) (xs : List Int) : Bool := xs.all fun m => inR m 0 (2 ^ n.toNat - 1)
theorem msks_mk {n : Int} (h : 0 ≤ n ∧ n ≤ 8) (xs : List Int) : msks n xs = xs.all fun m => mkOk n m := by
  unfold msks
  congr 1
  funext m
  rw [mkOk_small h]
theorem q_l01Full {x : Int} (h0 : 0 ≤ x) (h1 : x ≤ 62) (W : World) (n : Nat) :
    Calls Try.prog 93 #[.int .i64 x] (W.drewN n) fun e w'' => e = .returned (.int .i64 (2 ^ x.toNat - 1)) ∧ ∃ m, w'' = W.drewN m :=
  (spec_l01Full x _ h0 h1).mono fun e w' hh => ⟨hh.1, n, hh.2.symm⟩
theorem q_l01In0 {x l h : Int} {b : Bool} (hq : inR x l h = b) (W : World) (n : Nat) :
    Calls Try.prog 69 #[.int .i64 x, .int .i64 l, .int .i64 h] (W.drewN n) fun e w'' => e = .returned (.bool b) ∧ ∃ m, w'' = W.drewN m :=
  (spec_l01In x l h _).mono fun e w' hh => ⟨by rw [hh.1, hq], n, hh.2.symm⟩
theorem spec_l01Masks (n : Int) (v : Value) (xs : List Int) (w : World) (h : Sl cI w v xs) (hl : xs.length ≤ 1073741824) (h0 : 0 ≤ n) (h1 : n ≤ 62) :
    Calls Try.prog 151 #[.int .i64 n, v] w fun e w' => e = .returned (.bool (msks n xs)) ∧ Below w.heap.size w w' := by
  obtain ⟨A, c, rfl⟩ := h.opn
  go_enter Try.func151, Try.ntmps151
  go_wp2
  go_loopw [5] (fun i wr => ∃ j : Nat, j ≤ xs.length ∧ i = .int .i64 j ∧ msks n (xs.take j) = true ∧ Below w.heap.size w wr) (fun i _ => xs.length - (intOf i).toNat)
  case atStart => exact ⟨0, Nat.zero_le _, rfl, rfl, Below.refl _ _⟩
  case round =>
    obtain ⟨j, hj, rfl, hh, hb⟩ := hrel
    have Hh := Lib.hid hh; clear hh
    have HW := Lib.hid hb
    by_cases hlt : j < xs.length
    · obtain ⟨b, o, rfl, hbl, hc0⟩ := (h.below hb).atI hlt
      have HT : Hid (msks n (xs.take (j + 1)) = inR xs[j] 0 (2 ^ n.toNat - 1)) := Lib.hid (by
        have := Hh.out
        unfold msks at this ⊢
        rw [List.take_succ_eq_append_getElem hlt, List.all_append, this]
        simp)
      have HA : Hid (inR xs[j] 0 (2 ^ n.toNat - 1) = false → msks n xs = false) := Lib.hid fun h1 => by
        unfold msks
        rw [← Bool.not_eq_true, List.all_eq_true]
        intro ha
        rw [ha _ (List.getElem_mem hlt)] at h1
        cases h1
      have HQ1 := Lib.hid (fun m => q_l01Full h0 h1 wr m)
      generalize xs[j] = x at *
      cases ht : inR x 0 (2 ^ n.toNat - 1)
      · have HQ2 := Lib.hid (fun m => q_l01In0 ht wr m)
        have HO := Lib.hid (HA.out ht)
        clear ht hb
        go_wp2
        go_quiet ((first | (go_at_call 93; exact HQ1.out _) | (go_at_call 69; exact HQ2.out _)))
        go_wp2
        go_ret
        exact ⟨by rw [HO.out]; rfl, below_drewN HW.out _⟩
      · have HQ2 := Lib.hid (fun m => q_l01In0 ht wr m)
        rw [ht] at HT
        clear ht hb
        go_wp2
        go_quiet ((first | (go_at_call 93; exact HQ1.out _) | (go_at_call 69; exact HQ2.out _)))
        go_wp2
        go_roundw
        case rel => exact ⟨j + 1, by omega, by go_num, HT.out, below_drewN HW.out _⟩
        case measure => simp [intOf]; omega
    · have HO : Hid (msks n xs = true) := Lib.hid (by have := Hh.out; rwa [List.take_of_length_le (by omega)] at this)
      clear hb
      go_wp2
      go_ret
      exact ⟨by rw [HO.out]; rfl, HW.out⟩
theorem spec_l05Is (n : Int) (v : Value) (xs : List Int) (w : World) (h : Sl cI w v xs) (hl : xs.length ≤ 1073741824) :
    Calls Try.prog 150 #[.agg #[.int .i64 n, v]] w fun e w' => e = .returned (.bool (frOk n xs)) ∧ Below w.heap.size w w' := by
  obtain ⟨A, c, rfl⟩ := h.opn
  have hb0 := below_alloc' w (.cells #[.int .i64 n, .slice A xs.length c] 37)
  have H0 := Lib.hid (h.below hb0)
  have HB := Lib.hid hb0
  clear h hb0
  cases h1 : inR n 0 8
  · have E : Hid (frOk n xs = false) := Lib.hid (by unfold frOk; rw [h1]; rfl)
    have H1 := Lib.hid (fun W => h1 ▸ spec_l01In n 0 8 W)
    clear h1
    go_enter Try.func150, Try.ntmps150
    go_wp2_with fail
    refine (H1.out _).mono ?_
    rintro e w1 ⟨rfl, rfl⟩
    go_wp2
    go_ret
    exact ⟨by rw [E.out]; rfl, HB.out⟩
  · have hr := inR_iff.1 h1
    have H1 := Lib.hid (fun W => h1 ▸ spec_l01In n 0 8 W)
    by_cases h2 : (xs.length : Int) = n
    · have E : Hid (frOk n xs = msks n xs) := Lib.hid (by
        unfold frOk relOk
        rw [h1, decide_eq_true h2, Bool.true_and, Bool.true_and, msks_mk hr, h2])
      subst h2
      have HM := Lib.hid (spec_l01Masks _ _ xs _ H0.out hl hr.1 (by omega))
      clear h1
      go_enter Try.func150, Try.ntmps150
      go_wp2_with fail
      refine (H1.out _).mono ?_
      rintro e w1 ⟨rfl, rfl⟩
      go_wp2_with fail
      refine HM.out.mono ?_
      rintro e w2 ⟨rfl, hb⟩
      have HB2 := Lib.hid (HB.out.trans (hb.mono HB.out.size))
      clear hb
      go_wp2
      go_ret
      exact ⟨by rw [E.out]; rfl, HB2.out⟩
    · have E : Hid (frOk n xs = false) := Lib.hid (by unfold frOk; rw [decide_eq_false h2]; simp)
      have d2 : ((xs.length : Int) == n) = false := beq_eq_false_iff_ne.2 h2
      clear h1 h2
      go_enter Try.func150, Try.ntmps150
      go_wp2_with fail
      refine (H1.out _).mono ?_
      rintro e w1 ⟨rfl, rfl⟩
      go_wp2
      go_ret
      exact ⟨by rw [E.out]; rfl, HB.out⟩
theorem spec_l01Box (v : Value) (ns : List Nat) (m : Nat) (w : World) (h : Sl cI w v (li ns)) (hr : RelN ns) (hm : m < 256) :
    Calls Try.prog 243 #[v, .int .i64 m] w fun e w' => e = .returned (.int .i64 (bx ns m : Nat)) ∧ ∃ q, w' = w.drewN q := by
  obtain ⟨A, c, rfl⟩ := h.opn
  have hlen := li_length ns
  have h8 := hr.1
  have h256 := fun i => Nat.lt_of_lt_of_le (getD_lt hr.2 i) (two_pow_256 h8)
  rw [hlen] at h ⊢
  go_enter Try.func243, Try.ntmps243
  have H256 := Lib.hid h256
  have HL := Lib.hid hlen
  clear h256 hlen hr
  go_wp2
  go_loopw [5, 6] (fun t i wr => ∃ j : Nat, j ≤ ns.length ∧ i = .int .i64 j ∧ t = .int .i64 (msk (fun i => decide (andnot (ns.getD i 0) m = 0)) j : Nat) ∧ ∃ q, wr = w.drewN q) (fun _ i _ => ns.length - (intOf i).toNat)
  case atStart => exact ⟨0, Nat.zero_le _, rfl, rfl, 0, rfl⟩
  case round =>
    obtain ⟨j, hj, rfl, rfl, qn, rfl⟩ := hrel
    by_cases hlt : j < ns.length
    · have hlt' : j < (li ns).length := by rw [HL.out]; exact hlt
      obtain ⟨b, o, rfl, hbl, hc0⟩ := h.atI hlt'
      rw [li_get] at hc0
      have hx := H256.out j
      have HS : Hid (msk (fun i => decide (andnot (ns.getD i 0) m = 0)) (j + 1) = msk (fun i => decide (andnot (ns.getD i 0) m = 0)) j ||| if decide (andnot (ns.getD j 0) m = 0) = true then 2 ^ j else 0) := Lib.hid rfl
      have hb1 := msk_bound (fun i => decide (andnot (ns.getD i 0) m = 0)) hj h8
      generalize msk (fun i => decide (andnot (ns.getD i 0) m = 0)) j = q at *
      generalize ns.getD j 0 = x at *
      have ea := i64_and_nat x m (by omega) (by omega)
      by_cases ht : andnot x m = 0
      · have hd : (((x &&& m : Nat) : Int) == (x : Int)) = true := by rw [beq_iff_eq, Int.natCast_inj]; exact (and_eq_iff x m).2 ht
        rw [decide_eq_true ht, if_pos rfl] at HS
        have e2 := i64_or_nat q (2 ^ j) (by omega) (two_pow_lt (by omega))
        rw [← cast_two_pow] at e2
        clear ht
        go_wp2
        go_quiet (fail)
        go_wp2_with fail
        refine (spec_l01One _ _ (by omega) (by omega)).mono ?_
        rintro e w1 ⟨rfl, rfl⟩
        rw [Int.toNat_natCast]
        go_wp2
        go_roundw
        case rel => exact ⟨j + 1, by omega, by go_num, by rw [HS.out], by first | exact ⟨_, rfl⟩ | exact ⟨_, World.drewN_drewN _ _ _⟩⟩
        case measure => simp [intOf]; omega
      · have hd : (((x &&& m : Nat) : Int) == (x : Int)) = false := by rw [beq_eq_false_iff_ne]; intro h; exact ht ((and_eq_iff x m).1 (by omega))
        rw [decide_eq_false ht, if_neg (by decide), Nat.or_zero] at HS
        clear ht
        go_wp2
        go_quiet (fail)
        go_wp2
        go_roundw
        case rel => exact ⟨j + 1, by omega, by go_num, by rw [HS.out], by first | exact ⟨_, rfl⟩ | exact ⟨_, World.drewN_drewN _ _ _⟩⟩
        case measure => simp [intOf]; omega
    · obtain rfl : j = ns.length := by omega
      go_wp2
      go_ret
      exact ⟨rfl, _, rfl⟩
end Go.Proofs.Ytbejakkcdbhmaaa

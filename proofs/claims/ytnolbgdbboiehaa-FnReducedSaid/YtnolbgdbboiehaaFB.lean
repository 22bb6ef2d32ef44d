/- Joined of several texts: 05c, 05d. -/
import Derived.Test.YtnolbgdbboiehaaFA
import Derived.Test.YtnolbgdbboiehaaB4
namespace Go.Proofs.Ytnolbgdbboiehaa
open Go.RowKit
set_option linter.unusedVariables false
set_option linter.unusedSimpArgs false
/- Contracts of chapters 1, 5 and 6: frames, models, boxes, truth, of the reference. -/
/-- all are masks of n elements -/
def msks (n : Int) (xs : List Int) : Bool := xs.all fun m => inR m 0 (2 ^ n.toNat - 1)
theorem msks_mk {n : Int} (h : 0 ≤ n ∧ n ≤ 8) (xs : List Int) : msks n xs = xs.all fun m => mkOk n m := by
  unfold msks
  congr 1
  funext m
  rw [mkOk_small h]
theorem q_l01Full {x : Int} (h0 : 0 ≤ x) (h1 : x ≤ 62) (W : World) (n : Nat) :
    Calls Try.prog 71 #[.int .i64 x] (W.drewN n) fun e w'' => e = .returned (.int .i64 (2 ^ x.toNat - 1)) ∧ ∃ m, w'' = W.drewN m :=
  (spec_l01Full x _ h0 h1).mono fun e w' hh => ⟨hh.1, n, hh.2.symm⟩
theorem q_l01In0 {x l h : Int} {b : Bool} (hq : inR x l h = b) (W : World) (n : Nat) :
    Calls Try.prog 59 #[.int .i64 x, .int .i64 l, .int .i64 h] (W.drewN n) fun e w'' => e = .returned (.bool b) ∧ ∃ m, w'' = W.drewN m :=
  (spec_l01In x l h _).mono fun e w' hh => ⟨by rw [hh.1, hq], n, hh.2.symm⟩
theorem spec_l01Masks (n : Int) (v : Value) (xs : List Int) (w : World) (h : Sl cI w v xs) (hl : xs.length ≤ 1073741824) (h0 : 0 ≤ n) (h1 : n ≤ 62) :
    Calls Try.prog 58 #[.int .i64 n, v] w fun e w' => e = .returned (.bool (msks n xs)) ∧ Below w.heap.size w w' := by
  obtain ⟨A, c, rfl⟩ := h.opn
  go_enter Try.func58, Try.ntmps58
  go_wp2
  go_loopw [5] (fun i wr => ∃ j : Nat, j ≤ xs.length ∧ i = .int .i64 j ∧ msks n (xs.take j) = true ∧ Below w.heap.size w wr) (fun i _ => xs.length - (intOf i).toNat)
  case atStart => exact ⟨0, Nat.zero_le _, rfl, rfl, Below.refl _ _⟩
  case round =>
    obtain ⟨j, hj, rfl, hh, hb⟩ := hrel
    have Hh := Lib.hid hh; clear hh
    have HW := Lib.hid hb
    by_cases hlt : j < xs.length
    · obtain ⟨b, o, rfl, hbl, hc0⟩ := (h.below hb).atI hlt
      have HT : Hid (msks n (xs.take (j + 1)) = inR xs[j] 0 (2 ^ n.toNat - 1)) := Lib.hid (by
        have := Hh.out
        unfold msks at this ⊢
        rw [List.take_succ_eq_append_getElem hlt, List.all_append, this]
        simp)
      have HA : Hid (inR xs[j] 0 (2 ^ n.toNat - 1) = false → msks n xs = false) := Lib.hid fun h1 => by
        unfold msks
        rw [← Bool.not_eq_true, List.all_eq_true]
        intro ha
        rw [ha _ (List.getElem_mem hlt)] at h1
        cases h1
      have HQ1 := Lib.hid (fun m => q_l01Full h0 h1 wr m)
      generalize xs[j] = x at *
      cases ht : inR x 0 (2 ^ n.toNat - 1)
      · have HQ2 := Lib.hid (fun m => q_l01In0 ht wr m)
        have HO := Lib.hid (HA.out ht)
        clear ht hb
        go_wp2
        go_quiet ((first | (go_at_call 71; exact HQ1.out _) | (go_at_call 59; exact HQ2.out _)))
        go_wp2
        go_ret
        exact ⟨by rw [HO.out]; rfl, below_drewN HW.out _⟩
      · have HQ2 := Lib.hid (fun m => q_l01In0 ht wr m)
        rw [ht] at HT
        clear ht hb
        go_wp2
        go_quiet ((first | (go_at_call 71; exact HQ1.out _) | (go_at_call 59; exact HQ2.out _)))
        go_wp2
        go_roundw
        case rel => exact ⟨j + 1, by omega, by go_num, HT.out, below_drewN HW.out _⟩
        case measure => simp [intOf]; omega
    · have HO : Hid (msks n xs = true) := Lib.hid (by have := Hh.out; rwa [List.take_of_length_le (by omega)] at this)
      clear hb
      go_wp2
      go_ret
      exact ⟨by rw [HO.out]; rfl, HW.out⟩
theorem spec_l05Is (n : Int) (v : Value) (xs : List Int) (w : World) (h : Sl cI w v xs) (hl : xs.length ≤ 1073741824) :
    Calls Try.prog 57 #[.agg #[.int .i64 n, v]] w fun e w' => e = .returned (.bool (frOk n xs)) ∧ Below w.heap.size w w' := by
  obtain ⟨A, c, rfl⟩ := h.opn
  have hb0 := below_alloc' w (.cells #[.int .i64 n, .slice A xs.length c] 26)
  have H0 := Lib.hid (h.below hb0)
  have HB := Lib.hid hb0
  clear h hb0
  cases h1 : inR n 0 8
  · have E : Hid (frOk n xs = false) := Lib.hid (by unfold frOk; rw [h1]; rfl)
    have H1 := Lib.hid (fun W => h1 ▸ spec_l01In n 0 8 W)
    clear h1
    go_enter Try.func57, Try.ntmps57
    go_wp2_with fail
    refine (H1.out _).mono ?_
    rintro e w1 ⟨rfl, rfl⟩
    go_wp2
    go_ret
    exact ⟨by rw [E.out]; rfl, HB.out⟩
  · have hr := inR_iff.1 h1
    have H1 := Lib.hid (fun W => h1 ▸ spec_l01In n 0 8 W)
    by_cases h2 : (xs.length : Int) = n
    · have E : Hid (frOk n xs = msks n xs) := Lib.hid (by
        unfold frOk relOk
        rw [h1, decide_eq_true h2, Bool.true_and, Bool.true_and, msks_mk hr, h2])
      subst h2
      have HM := Lib.hid (spec_l01Masks _ _ xs _ H0.out hl hr.1 (by omega))
      clear h1
      go_enter Try.func57, Try.ntmps57
      go_wp2_with fail
      refine (H1.out _).mono ?_
      rintro e w1 ⟨rfl, rfl⟩
      go_wp2_with fail
      refine HM.out.mono ?_
      rintro e w2 ⟨rfl, hb⟩
      have HB2 := Lib.hid (HB.out.trans (hb.mono HB.out.size))
      clear hb
      go_wp2
      go_ret
      exact ⟨by rw [E.out]; rfl, HB2.out⟩
    · have E : Hid (frOk n xs = false) := Lib.hid (by unfold frOk; rw [decide_eq_false h2]; simp)
      have d2 : ((xs.length : Int) == n) = false := beq_eq_false_iff_ne.2 h2
      clear h1 h2
      go_enter Try.func57, Try.ntmps57
      go_wp2_with fail
      refine (H1.out _).mono ?_
      rintro e w1 ⟨rfl, rfl⟩
      go_wp2
      go_ret
      exact ⟨by rw [E.out]; rfl, HB.out⟩
/- Contracts of chapter 6: models and truth, of the reference. Written by gen05d.py. -/
/-- a frame's arrows and a model's values lie in w -/
structure Mdl (w : World) (va vu : Value) (ns us : List Nat) : Prop where
  a : Sl cI w va (li ns)
  u : Sl cI w vu (li us)
theorem Mdl.below {w w' : World} {va vu : Value} {ns us : List Nat} (h : Mdl w va vu ns us) (hb : Below w.heap.size w w') : Mdl w' va vu ns us := ⟨h.a.below hb, h.u.below hb⟩
theorem full_cast {k : Nat} (h : k ≤ 62) : (2 : Int) ^ k - 1 = ((2 ^ k - 1 : Nat) : Int) := by rw [Int.ofNat_sub (Nat.pow_pos (by decide)), ← cast_two_pow]; rfl
theorem spec_l01Full' (k F : Nat) (hF : F = 2 ^ k - 1) (w : World) (h1 : k ≤ 62) :
    Calls Try.prog 71 #[.int .i64 (k : Int)] w fun e w' => e = .returned (.int .i64 (F : Nat)) ∧ w = w' :=
  (spec_l01Full k w (by omega) (by omega)).mono fun e w' ⟨he, hw⟩ => ⟨by rw [he, Int.toNat_natCast, full_cast h1, hF], hw⟩
theorem spec_l06Is (n : Int) (v u : Value) (xs vs : List Int) (w : World) (h : Sl cI w v xs) (h' : Sl cI w u vs) (hl : xs.length ≤ 1073741824) (hl' : vs.length ≤ 1073741824) :
    Calls Try.prog 22 #[.agg #[.int .i64 n, v, u]] w fun e w' => e = .returned (.bool (mdOk n xs vs)) ∧ Below w.heap.size w w' := by
  obtain ⟨A, c, rfl⟩ := h.opn
  obtain ⟨A', c', rfl⟩ := h'.opn
  have hb0 := below_alloc' w (.cells #[.int .i64 n, .slice A xs.length c, .slice A' vs.length c'] 28)
  have HF := Lib.hid (spec_l05Is n _ xs _ (h.below hb0) hl)
  have H0' := Lib.hid (h'.below hb0)
  have HB := Lib.hid hb0
  have hk0 := Blk.new w 28 #[.int .i64 n, .slice A xs.length c, .slice A' vs.length c']
  have HK := Lib.hid hk0
  have hkl := hk0.lt
  cases h1 : frOk n xs
  · have E : Hid (mdOk n xs vs = false) := Lib.hid (by unfold mdOk; rw [h1]; rfl)
    rw [h1] at HF
    clear h1 h h' hb0 hk0
    go_enter Try.func22, Try.ntmps22
    go_wp2_with fail
    refine HF.out.mono ?_
    rintro e w1 ⟨rfl, hb⟩
    have HB1 := Lib.hid (HB.out.trans (hb.mono HB.out.size))
    clear hb
    go_wp2
    go_ret
    exact ⟨by rw [E.out]; rfl, HB1.out⟩
  · have hr : 0 ≤ n ∧ n ≤ 8 := by
      unfold frOk at h1
      rw [Bool.and_eq_true] at h1
      exact inR_iff.1 h1.1
    rw [h1] at HF
    by_cases h2 : vs.length = 6
    · have E : Hid (mdOk n xs vs = msks n vs) := Lib.hid (by unfold mdOk; rw [h1, decide_eq_true h2, msks_mk hr]; rfl)
      have H2 := Lib.hid h2
      clear h1 h h' hb0 hk0
      go_enter Try.func22, Try.ntmps22
      rw [H2.out] at HK HB HF hkl H0' ⊢
      clear h2
      go_wp2_with fail
      refine HF.out.mono ?_
      rintro e w1 ⟨rfl, hb⟩
      have hk1 := HK.out.below hb hkl
      have k1 := hk1.cell
      have k2 := hk1.lt
      have H1' := Lib.hid (H0'.out.below hb)
      have HB1 := Lib.hid (HB.out.trans (hb.mono HB.out.size))
      clear hb hk1
      go_wp2_with fail
      refine (spec_l01Masks n _ vs _ H1'.out hl' hr.1 (by omega)).mono ?_
      rintro e w2 ⟨rfl, hb2⟩
      have HB2 := Lib.hid (bthen HB1.out hb2)
      clear hb2 k1
      go_wp2
      go_ret
      exact ⟨by rw [E.out]; rfl, HB2.out⟩
    · have E : Hid (mdOk n xs vs = false) := Lib.hid (by unfold mdOk; rw [decide_eq_false h2]; simp)
      have d2 : ((vs.length : Int) == 6) = false := beq_eq_false_iff_ne.2 (by omega)
      clear h1 h h' hb0 hk0 h2
      go_enter Try.func22, Try.ntmps22
      go_wp2_with fail
      refine HF.out.mono ?_
      rintro e w1 ⟨rfl, hb⟩
      have hk1 := HK.out.below hb hkl
      have k1 := hk1.cell
      have k2 := hk1.lt
      have HB1 := Lib.hid (HB.out.trans (hb.mono HB.out.size))
      clear hb hk1
      go_wp2
      go_ret
      exact ⟨by rw [E.out]; rfl, HB1.out⟩
end Go.Proofs.Ytnolbgdbboiehaa

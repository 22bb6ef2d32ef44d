/- Joined of several texts: 05c, 05d. -/
import Derived.Test.YtkdldfomdbgcaaaGreatFA
import Derived.Test.YtkdldfomdbgcaaaGreatB4
namespace Go.Proofs.YtkdldfomdbgcaaaGreat
open Go.RowKit
set_option linter.unusedVariables false
set_option linter.unusedSimpArgs false
/- Contracts of chapters 1, 5 and 6: frames, models, boxes, truth, of the reference. -/
/-- all are masks of n elements -/
def msks (n : Int) (xs : List Int) : Bool := xs.all fun m => inR m 0 (2 ^ n.toNat - 1)
theorem msks_mk {n : Int} (h : 0 ≤ n ∧ n ≤ 8) (xs : List Int) : msks n xs = xs.all fun m => mkOk n m := by
  unfold msks
  congr 1
  funext m
  rw [mkOk_small h]
theorem q_l01Full {x : Int} (h0 : 0 ≤ x) (h1 : x ≤ 62) (W : World) (n : Nat) :
    Calls Tryz.prog 106 #[.int .i64 x] (W.drewN n) fun e w'' => e = .returned (.int .i64 (2 ^ x.toNat - 1)) ∧ ∃ m, w'' = W.drewN m :=
  (spec_l01Full x _ h0 h1).mono fun e w' hh => ⟨hh.1, n, hh.2.symm⟩
theorem q_l01In0 {x l h : Int} {b : Bool} (hq : inR x l h = b) (W : World) (n : Nat) :
    Calls Tryz.prog 67 #[.int .i64 x, .int .i64 l, .int .i64 h] (W.drewN n) fun e w'' => e = .returned (.bool b) ∧ ∃ m, w'' = W.drewN m :=
  (spec_l01In x l h _).mono fun e w' hh => ⟨by rw [hh.1, hq], n, hh.2.symm⟩
theorem spec_l01Masks (n : Int) (v : Value) (xs : List Int) (w : World) (h : Sl cI w v xs) (hl : xs.length ≤ 1073741824) (h0 : 0 ≤ n) (h1 : n ≤ 62) :
    Calls Tryz.prog 68 #[.int .i64 n, v] w fun e w' => e = .returned (.bool (msks n xs)) ∧ Below w.heap.size w w' := by
  obtain ⟨A, c, rfl⟩ := h.opn
  go_enter Tryz.func68, Tryz.ntmps68
  go_wp2
  go_loopw [5] (fun i wr => ∃ j : Nat, j ≤ xs.length ∧ i = .int .i64 j ∧ msks n (xs.take j) = true ∧ Below w.heap.size w wr) (fun i _ => xs.length - (intOf i).toNat)
  case atStart => exact ⟨0, Nat.zero_le _, rfl, rfl, Below.refl _ _⟩
  case round =>
    obtain ⟨j, hj, rfl, hh, hb⟩ := hrel
    have Hh := Lib.hid hh; clear hh
    have HW := Lib.hid hb
    by_cases hlt : j < xs.length
    · obtain ⟨b, o, rfl, hbl, hc0⟩ := (h.below hb).atI hlt
      have HT : Hid (msks n (xs.take (j + 1)) = inR xs[j] 0 (2 ^ n.toNat - 1)) := Lib.hid (by
        have := Hh.out
        unfold msks at this ⊢
        rw [List.take_succ_eq_append_getElem hlt, List.all_append, this]
        simp)
      have HA : Hid (inR xs[j] 0 (2 ^ n.toNat - 1) = false → msks n xs = false) := Lib.hid fun h1 => by
        unfold msks
        rw [← Bool.not_eq_true, List.all_eq_true]
        intro ha
        rw [ha _ (List.getElem_mem hlt)] at h1
        cases h1
      have HQ1 := Lib.hid (fun m => q_l01Full h0 h1 wr m)
      generalize xs[j] = x at *
      cases ht : inR x 0 (2 ^ n.toNat - 1)
      · have HQ2 := Lib.hid (fun m => q_l01In0 ht wr m)
        have HO := Lib.hid (HA.out ht)
        clear ht hb
        go_wp2
        go_quiet ((first | (go_at_call 106; exact HQ1.out _) | (go_at_call 67; exact HQ2.out _)))
        go_wp2
        go_ret
        exact ⟨by rw [HO.out]; rfl, below_drewN HW.out _⟩
      · have HQ2 := Lib.hid (fun m => q_l01In0 ht wr m)
        rw [ht] at HT
        clear ht hb
        go_wp2
        go_quiet ((first | (go_at_call 106; exact HQ1.out _) | (go_at_call 67; exact HQ2.out _)))
        go_wp2
        go_roundw
        case rel => exact ⟨j + 1, by omega, by go_num, HT.out, below_drewN HW.out _⟩
        case measure => simp [intOf]; omega
    · have HO : Hid (msks n xs = true) := Lib.hid (by have := Hh.out; rwa [List.take_of_length_le (by omega)] at this)
      clear hb
      go_wp2
      go_ret
      exact ⟨by rw [HO.out]; rfl, HW.out⟩
/- Contracts of chapter 6: models and truth, of the reference. Written by gen05d.py. -/
/-- a frame's arrows and a model's values lie in w -/
structure Mdl (w : World) (va vu : Value) (ns us : List Nat) : Prop where
  a : Sl cI w va (li ns)
  u : Sl cI w vu (li us)
theorem Mdl.below {w w' : World} {va vu : Value} {ns us : List Nat} (h : Mdl w va vu ns us) (hb : Below w.heap.size w w') : Mdl w' va vu ns us := ⟨h.a.below hb, h.u.below hb⟩
theorem full_cast {k : Nat} (h : k ≤ 62) : (2 : Int) ^ k - 1 = ((2 ^ k - 1 : Nat) : Int) := by rw [Int.ofNat_sub (Nat.pow_pos (by decide)), ← cast_two_pow]; rfl
theorem spec_l01Full' (k F : Nat) (hF : F = 2 ^ k - 1) (w : World) (h1 : k ≤ 62) :
    Calls Tryz.prog 106 #[.int .i64 (k : Int)] w fun e w' => e = .returned (.int .i64 (F : Nat)) ∧ w = w' :=
  (spec_l01Full k w (by omega) (by omega)).mono fun e w' ⟨he, hw⟩ => ⟨by rw [he, Int.toNat_natCast, full_cast h1, hF], hw⟩
end Go.Proofs.YtkdldfomdbgcaaaGreat

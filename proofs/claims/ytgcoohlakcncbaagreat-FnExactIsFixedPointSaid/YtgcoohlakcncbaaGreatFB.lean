/- Joined of several texts: 05c, 05d. -/
import Derived.Test.YtgcoohlakcncbaaGreatFA
import Derived.Test.YtgcoohlakcncbaaGreatB4
namespace Go.Proofs.YtgcoohlakcncbaaGreat
open Go.RowKit
set_option linter.unusedVariables false
set_option linter.unusedSimpArgs false
/- Contracts of chapters 1, 5 and 6: frames, models, boxes, truth, of the reference. -/
/-- all are masks of n elements -/
def msks (n : Int) (xs : List Int) : Bool := xs.all fun m => inR m 0 (2 ^ n.toNat - 1)
theorem msks_mk {n : Int} (h : 0 ≤ n ∧ n ≤ 8) (xs : List Int) : msks n xs = xs.all fun m => mkOk n m := by
  unfold msks
  congr 1
  funext m
  rw [mkOk_small h]
theorem q_l01Full {x : Int} (h0 : 0 ≤ x) (h1 : x ≤ 62) (W : World) (n : Nat) :
    Calls Tryz.prog 119 #[.int .i64 x] (W.drewN n) fun e w'' => e = .returned (.int .i64 (2 ^ x.toNat - 1)) ∧ ∃ m, w'' = W.drewN m :=
  (spec_l01Full x _ h0 h1).mono fun e w' hh => ⟨hh.1, n, hh.2.symm⟩
theorem q_l01In0 {x l h : Int} {b : Bool} (hq : inR x l h = b) (W : World) (n : Nat) :
    Calls Tryz.prog 55 #[.int .i64 x, .int .i64 l, .int .i64 h] (W.drewN n) fun e w'' => e = .returned (.bool b) ∧ ∃ m, w'' = W.drewN m :=
  (spec_l01In x l h _).mono fun e w' hh => ⟨by rw [hh.1, hq], n, hh.2.symm⟩
/- Contracts of chapter 6: models and truth, of the reference. Written by gen05d.py. -/
/-- a frame's arrows and a model's values lie in w -/
structure Mdl (w : World) (va vu : Value) (ns us : List Nat) : Prop where
  a : Sl cI w va (li ns)
  u : Sl cI w vu (li us)
theorem Mdl.below {w w' : World} {va vu : Value} {ns us : List Nat} (h : Mdl w va vu ns us) (hb : Below w.heap.size w w') : Mdl w' va vu ns us := ⟨h.a.below hb, h.u.below hb⟩
theorem full_cast {k : Nat} (h : k ≤ 62) : (2 : Int) ^ k - 1 = ((2 ^ k - 1 : Nat) : Int) := by rw [Int.ofNat_sub (Nat.pow_pos (by decide)), ← cast_two_pow]; rfl
theorem spec_l01Full' (k F : Nat) (hF : F = 2 ^ k - 1) (w : World) (h1 : k ≤ 62) :
    Calls Tryz.prog 119 #[.int .i64 (k : Int)] w fun e w' => e = .returned (.int .i64 (F : Nat)) ∧ w = w' :=
  (spec_l01Full k w (by omega) (by omega)).mono fun e w' ⟨he, hw⟩ => ⟨by rw [he, Int.toNat_natCast, full_cast h1, hF], hw⟩
end Go.Proofs.YtgcoohlakcncbaaGreat

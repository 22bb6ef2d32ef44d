/- Plain words of chapter 4: models of plain formulas. No program in sight. -/
import Derived.Test.YtaigiopoogbbbaaGreatY10
namespace Go.Proofs.YtaigiopoogbbbaaGreat
set_option linter.unusedVariables false
set_option linter.unusedSimpArgs false
/-- no modal node -/
def plN (n : Nd) : Bool := n.1 == 5 || n.1 == 6
def pl (xs : List Nd) : Bool := !xs.any plN
/-- the code of formulas that have to be plain -/
def pcode (xss : List (List Nd)) : Int := if xss.all isF then (if xss.all pl then 0 else 5) else 1
def Fm.plain : Fm → Bool
  | .var _ => true
  | .fls => true
  | .bin _ a b => a.plain && b.plain
  | .un _ _ => false
theorem pl_enc (f : Fm) : pl (enc f) = f.plain := by
  unfold pl
  induction f with
  | var s => rfl
  | fls => rfl
  | bin k a b iha ihb =>
    rw [enc, List.any_cons, List.any_append, Fm.plain, ← iha, ← ihb]
    cases k <;> simp [plN, BK.i]
  | un k a ih => cases k <;> simp [enc, plN, Fm.plain, UK.i]
/-- the value in a row -/
def ev : Fm → Nat → Bool
  | .var s, r => r.testBit s
  | .fls, _ => false
  | .bin .and a b, r => ev a r && ev b r
  | .bin .or a b, r => ev a r || ev b r
  | .bin .imp a b, r => !ev a r || ev b r
  | .un _ _, _ => false
/-- the models -/
def mdl (f : Fm) : Nat := msk (ev f) 64
theorem mdl_lt (f : Fm) : mdl f < 18446744073709551616 := msk_lt (ev f) 64
theorem mdl_and (a b : Fm) : mdl (.bin .and a b) = mdl a &&& mdl b := by
  refine (msk_eq 64 _ (Nat.and_lt_two_pow _ (mdl_lt b)) fun i hi => ?_).symm
  rw [Nat.testBit_and, mdl, mdl, msk_testBit, msk_testBit, decide_eq_true hi, Bool.true_and, Bool.true_and]
  rfl
theorem mdl_or (a b : Fm) : mdl (.bin .or a b) = mdl a ||| mdl b := by
  refine (msk_eq 64 _ (Nat.or_lt_two_pow (mdl_lt a) (mdl_lt b)) fun i hi => ?_).symm
  rw [Nat.testBit_or, mdl, mdl, msk_testBit, msk_testBit, decide_eq_true hi, Bool.true_and, Bool.true_and]
  rfl
theorem mdl_imp (a b : Fm) : mdl (.bin .imp a b) = (18446744073709551615 - mdl a) ||| mdl b := by
  have h1 : 18446744073709551615 - mdl a = 2 ^ 64 - (mdl a + 1) := by have := mdl_lt a; omega
  have h2 : 18446744073709551615 - mdl a < 2 ^ 64 := by have := mdl_lt a; omega
  refine (msk_eq 64 _ (Nat.or_lt_two_pow h2 (mdl_lt b)) fun i hi => ?_).symm
  rw [Nat.testBit_or, h1, Nat.testBit_two_pow_sub_succ (mdl_lt a), mdl, mdl, msk_testBit, msk_testBit, decide_eq_true hi, Bool.true_and, Bool.true_and]
  rfl
theorem mdl_iff (f g : Fm) : mdl f = mdl g ↔ ∀ r, r < 64 → ev f r = ev g r := by
  constructor
  · intro h r hr
    have := congrArg (fun n => n.testBit r) h
    simpa [mdl, msk_testBit, hr] using this
  · intro h; exact msk_congr _ _ 64 h
end Go.Proofs.YtaigiopoogbbbaaGreat

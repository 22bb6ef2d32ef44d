/- FnReduced: both sides' contracts together, a case at a time. -/
import Derived.Test.YtnolbgdbboiehaaM05Q
import Derived.Test.YtnolbgdbboiehaaRX
import Derived.Test.Ytnolbgdbboiehaa07R
namespace Go.Proofs.Ytnolbgdbboiehaa
open Go.RowKit
set_option linter.unusedVariables false
set_option linter.unusedSimpArgs false
/-- ReducedModel refuses with this code -/
def RB (f : Nat) (n x k : Int) (xs vs : List Int) : Prop := ∀ W va vu, Sl cI W va xs → Sl cI W vu vs →
  Calls Try.prog f #[.agg #[.int .i64 n, va, vu], .int .i64 x] W fun e w' => e = .returned (.tuple #[.agg #[.int .i64 0, .slice none 0 0, .slice none 0 0], .int .i64 0, .int .i64 k]) ∧ Below W.heap.size W w'
/-- ReducedModel yields this model and this world -/
def RT (f : Nat) (ns us qs ts : List Nat) (x p : Nat) : Prop := ∀ W A0 c0 A1 c1, Mdl W (.slice A0 ns.length c0) (.slice A1 6 c1) ns us →
  Calls Try.prog f #[.agg #[.int .i64 ns.length, .slice A0 ns.length c0, .slice A1 6 c1], .int .i64 x] W fun e w' => ∃ u1 u2, e = .returned (.tuple #[.agg #[.int .i64 (qs.length : Nat), u1, u2], .int .i64 (p : Nat), .int .i64 0]) ∧ Sl cI w' u1 (li qs) ∧ Sl cI w' u2 (li ts) ∧ Below W.heap.size W w'
theorem red_bad (n x : Int) (xs vs : List Int) (hl : xs.length ≤ 1048576) (hl' : vs.length ≤ 1048576) (h : ¬ (mdOk n xs vs = true ∧ inR x 0 (n - 1) = true)) :
    ∃ k : Int, (k != 0) = true ∧ RB 6 n x k xs vs ∧ RB 7 n x k xs vs := by
  cases hc : mdOk n xs vs
  · exact ⟨1, rfl, fun W va vu ha hu => impl_ReducedModel_bad n x va vu xs vs W ha hu hl hl' hc, fun W va vu ha hu => spec_ReducedModel_bad n x va vu xs vs W ha hu hl hl' hc⟩
  · have hx : inR x 0 (n - 1) = false := by
      cases q : inR x 0 (n - 1)
      · rfl
      · exact absurd ⟨hc, q⟩ h
    have hn : 0 ≤ n ∧ n ≤ 8 := by
      obtain ⟨ns, us, rfl, rfl, rfl, hr, -⟩ := mdOk_iff hc
      have := hr.1
      omega
    exact ⟨2, rfl, fun W va vu ha hu => impl_ReducedModel_out n x va vu xs vs W ha hu hl hl' hc hn hx, fun W va vu ha hu => spec_ReducedModel_out n x va vu xs vs W ha hu hl hl' hc hn hx⟩
theorem red_ok (ns us : List Nat) (x : Nat) (h1 : MdN ns us) (hx : x < ns.length) :
    ∃ (qs ts : List Nat) (p : Nat), MdN qs ts ∧ p < qs.length ∧ RT 6 ns us qs ts x p ∧ RT 7 ns us qs ts x p ∧ rd ns us qs ts x p = none ∧ (bcl qs ts qs.length).1 = List.range qs.length ∧ rch qs p = 2 ^ qs.length - 1 := by
  have hok := mdN_ok h1
  have h8 := h1.r.1
  obtain ⟨k, hk, hk1, hk2⟩ := mems_find (by omega) (rch_self ns x)
  have hP := PM_ok h1 hx
  have hkP : k < (PM ns us x).1.length := by show k < (ptr ns (rch ns x)).length; rw [ptr_length]; exact hk
  have hlen := QM_len (PM ns us x).1 (PM ns us x).2
  refine ⟨(QM (PM ns us x).1 (PM ns us x).2).1, (QM (PM ns us x).1 (PM ns us x).2).2, (qcl (PM ns us x).1 (PM ns us x).2).getD k 0, QM_ok hP, by rw [hlen]; exact qcl_ltn _ _ hkP, fun W A0 c0 A1 c1 hm => ?_, fun W A0 c0 A1 c1 hm => ?_, ?_, ?_, ?_⟩
  · rw [hlen]
    exact (impl_ReducedModel_ok ns us x k A0 A1 c0 c1 W hm h1 hok hx hk hk1 hk2).mono fun e w' ⟨u1, u2, he, ⟨H, _, _, o1, o2⟩, hb⟩ => ⟨u1, u2, he, o1.sl, o2.sl, hb⟩
  · rw [hlen]
    exact (spec_ReducedModel_ok ns us x k A0 A1 c0 c1 W hm h1 hok hx hk hk1 hk2).mono fun e w' ⟨u1, u2, he, o1, o2, hb⟩ => ⟨u1, u2, he, o1.sl, o2.sl, hb⟩
  · exact rd_none fun r => RM_bz h1 hx hk hk1 r
  · rw [QM_bcl hP, hlen]
  · rw [RM_rch h1 hx hk hk1, hlen]
/-- RoundsToTell of worlds that nothing tells apart -/
theorem rounds_none (ns us ks ts : List Nat) (x y : Nat) (h1 : MdN ns us) (h2 : MdN ks ts) (hx : x < ns.length) (hy : y < ks.length) (hr : rd ns us ks ts x y = none) (A0 A1 B0 B1 : Option Addr) (c0 c1 d0 d1 : Nat) (w : World) (hm : Mdl w (.slice A0 ns.length c0) (.slice A1 6 c1) ns us) (hm2 : Mdl w (.slice B0 ks.length d0) (.slice B1 6 d1) ks ts) :
    Calls Try.prog 9 #[.agg #[.int .i64 ns.length, .slice A0 ns.length c0, .slice A1 6 c1], .int .i64 x, .agg #[.int .i64 ks.length, .slice B0 ks.length d0, .slice B1 6 d1], .int .i64 y] w fun e w' => e = .returned (.tuple #[.int .i64 0, .int .i64 4]) ∧ Below w.heap.size w w' := by
  have hc : tcode ns.length (li ns) (li us) x ks.length (li ks) (li ts) y = 0 := by
    unfold tcode
    rw [mdN_ok h1, mdN_ok h2, inR_true (by omega) (by omega), inR_true (by omega) (by omega)]
    rfl
  have h := impl_RoundsToTell_ok ns us ks ts x y A0 A1 B0 B1 c0 c1 d0 d1 w hm hm2 h1 h2 hc hx hy
  have e : rdI ns us ks ts x y = -1 := by unfold rdI; rw [hr]
  unfold rdV rdC at h
  rw [e] at h
  exact h
end Go.Proofs.Ytnolbgdbboiehaa

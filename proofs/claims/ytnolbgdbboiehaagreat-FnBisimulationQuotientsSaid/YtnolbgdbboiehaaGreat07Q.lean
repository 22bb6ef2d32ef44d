/- FnBisimulationQuotients: the quotient is a morphism's image; both sides' contracts together, a case at a time. -/
import Derived.Test.YtnolbgdbboiehaaGreatM07V
import Derived.Test.YtnolbgdbboiehaaGreatM05r
import Derived.Test.YtnolbgdbboiehaaGreat07M
import Derived.Test.YtnolbgdbboiehaaGreat06u
import Derived.Test.YtnolbgdbboiehaaGreat07t
import Derived.Test.YtnolbgdbboiehaaGreat07v
import Derived.Test.YtnolbgdbboiehaaGreat07j
import Derived.Test.YtnolbgdbboiehaaGreat07l
namespace Go.Proofs.YtnolbgdbboiehaaGreat
open Go.RowKit
set_option linter.unusedVariables false
set_option linter.unusedSimpArgs false
theorem QM_mph {ns us : List Nat} (h : MdN ns us) : Mph ns us (QM ns us).1 (QM ns us).2 (qcl ns us) := by
  have hQ := QM_ok h
  refine ⟨h, hQ, qcl_length ns us, fun c hc => by rw [QM_len]; exact qcl_memlt ns us c hc, fun x hx => ?_, fun x hx => ?_⟩
  · apply Nat.eq_of_testBit_eq
    intro j
    rw [Bool.eq_iff_iff, img_pw_bit, QM_arrow]
    constructor
    · rintro ⟨v, hv, hm, he⟩
      exact ⟨x, hx, rfl, v, by rw [← qcl_length ns us]; exact hv, hm, he⟩
    · rintro ⟨w, hw, hc, v, hv, hwv, rfl⟩
      have hb := (qcl_eq h.r hw hx).1 hc
      rw [bz_steady h.r h.r 16 (Nat.le_refl _) hw hx, bz_succ (A := (ns, us)) (B := (ns, us)) h.r h.r 16 hw hx] at hb
      obtain ⟨-, f, -⟩ := hb
      obtain ⟨s, p, q, r⟩ := f v hv hwv
      exact ⟨s, by rw [qcl_length]; exact p, q, ((qcl_eq h.r hv p).2 r).symm⟩
  · have h0 := QM_bz h 0 hx
    rw [bz_zero (ns, us) (QM ns us) hx (by rw [QM_len]; exact qcl_ltn ns us hx), atm_tru, decide_eq_true_eq] at h0
    exact h0
theorem mkN_ok7 {n m : Nat} (hn : n ≤ 8) (hm : m < 2 ^ n) : mkOk n (m : Int) = true := by
  rw [mkOk_small (by omega)]
  refine inR_true (Int.natCast_nonneg _) ?_
  rw [Int.toNat_natCast, full_cast (by omega)]
  exact Int.ofNat_le.2 (by omega)
theorem mdN_ok7 {ns us : List Nat} (h : MdN ns us) : mdOk ns.length (li ns) (li us) = true := by
  have h1 := h.r.1
  have hf : frOk ns.length (li ns) = true := by
    unfold frOk
    rw [inR_true (by omega) (by omega), Bool.true_and, li_length, decide_eq_true rfl, Bool.true_and]
    unfold relOk
    rw [List.all_eq_true]
    intro m hm
    unfold li at hm
    obtain ⟨a, ha, rfl⟩ := List.mem_map.1 hm
    rw [li_length]
    exact mkN_ok7 h1 (h.r.2 a ha)
  unfold mdOk
  rw [hf, li_length, h.l, decide_eq_true rfl, Bool.true_and, Bool.true_and, List.all_eq_true]
  intro m hm
  unfold li at hm
  obtain ⟨a, ha, rfl⟩ := List.mem_map.1 hm
  exact mkN_ok7 h.r.1 (h.b a ha)
/-- QuotientModel yields this model -/
def QT (f : Nat) (ns us qs ts : List Nat) : Prop := ∀ W A0 c0 A1 c1, Mdl W (.slice A0 ns.length c0) (.slice A1 6 c1) ns us →
  Calls Tryz.prog f #[.agg #[.int .i64 ns.length, .slice A0 ns.length c0, .slice A1 6 c1]] W fun e w' => ∃ u1 u2, e = .returned (.tuple #[.agg #[.int .i64 (qs.length : Nat), u1, u2], .int .i64 0]) ∧ Sl cI w' u1 (li qs) ∧ Sl cI w' u2 (li ts) ∧ Below W.heap.size W w'
/-- BisimulationClasses yields these numbers -/
def CT (f : Nat) (ns us cl : List Nat) : Prop := ∀ W A0 c0 A1 c1, Mdl W (.slice A0 ns.length c0) (.slice A1 6 c1) ns us →
  Calls Tryz.prog f #[.agg #[.int .i64 ns.length, .slice A0 ns.length c0, .slice A1 6 c1]] W fun e w' => ∃ u, e = .returned (.tuple #[u, .int .i64 0]) ∧ Sl cI w' u (li cl) ∧ Below W.heap.size W w'
/-- TruthSet yields this -/
def TS (f : Nat) (ns us : List Nat) (L : List Nd) (T k : Int) : Prop := ∀ W A0 c0 A1 c1 v, Mdl W (.slice A0 ns.length c0) (.slice A1 6 c1) ns us → Sl cN W v L →
  Calls Tryz.prog f #[.agg #[.int .i64 ns.length, .slice A0 ns.length c0, .slice A1 6 c1], v] W fun e w' => e = .returned (.tuple #[.int .i64 T, .int .i64 k]) ∧ Below W.heap.size W w'
theorem quot_ok (ns us : List Nat) (h1 : MdN ns us) :
    ∃ (qs ts cl : List Nat), Mph ns us qs ts cl ∧ QT 8 ns us qs ts ∧ QT 9 ns us qs ts ∧ CT 10 ns us cl ∧ CT 11 ns us cl ∧ QT 8 qs ts qs ts ∧
      ∀ (f : Fm) (x : Nat), x < ns.length → (tv ns us f).testBit x = (tv qs ts f).testBit (cl.getD x 0) := by
  have hok := mdN_ok7 h1
  have hQ := QM_ok h1
  have hlen := QM_len ns us
  have key : ∀ (ns us : List Nat) (h : MdN ns us), QT 8 ns us (QM ns us).1 (QM ns us).2 := fun ns us h W A0 c0 A1 c1 hm => by
    rw [QM_len]
    exact (impl_QuotientModel_ok ns us A0 A1 c0 c1 W hm h (mdN_ok7 h)).mono fun e w' ⟨u1, u2, he, ⟨H, _, _, o1, o2⟩, hb⟩ => ⟨u1, u2, he, o1.sl, o2.sl, hb⟩
  refine ⟨(QM ns us).1, (QM ns us).2, qcl ns us, QM_mph h1, key ns us h1, fun W A0 c0 A1 c1 hm => ?_, fun W A0 c0 A1 c1 hm => ?_, fun W A0 c0 A1 c1 hm => ?_, ?_, fun f x hx => QM_tv h1 f hx⟩
  · rw [hlen]
    exact (spec_QuotientModel_ok ns us A0 A1 c0 c1 W hm h1 hok).mono fun e w' ⟨u1, u2, he, o1, o2, hb⟩ => ⟨u1, u2, he, o1.sl, o2.sl, hb⟩
  · exact (impl_BisimulationClasses_ok ns us A0 A1 c0 c1 W hm h1 hok).mono fun e w' ⟨u, he, o, hb⟩ => ⟨u, he, o.sl, hb⟩
  · exact (spec_BisimulationClasses_ok ns us A0 A1 c0 c1 W hm h1 hok).mono fun e w' ⟨u, he, o, hb⟩ => ⟨u, he, o.sl, hb⟩
  · have := key (QM ns us).1 (QM ns us).2 hQ
    rw [QM_again h1] at this
    exact this
theorem truth_both (ns us qs ts cl : List Nat) (H : Mph ns us qs ts cl) (ht : ∀ (f : Fm) (x : Nat), x < ns.length → (tv ns us f).testBit x = (tv qs ts f).testBit (cl.getD x 0)) (L : List Nd) (hL : L.length ≤ 1001) :
    ∃ (T1 T2 : Nat) (k : Int), T1 < 256 ∧ T2 < 256 ∧ TS 16 ns us L T1 k ∧ TS 16 qs ts L T2 k ∧ TS 17 ns us L T1 k ∧ TS 17 qs ts L T2 k ∧
      ((k = 0 ∧ ∀ x, x < ns.length → T1.testBit x = T2.testBit (cl.getD x 0)) ∨ k = 1) := by
  have l1 : ∀ {ns us : List Nat} (h : MdN ns us), (li ns).length ≤ 1048576 ∧ (li us).length ≤ 1048576 := fun h => by rw [li_length, li_length, h.l]; have := h.r.1; omega
  cases hf : isF L
  · have b1 : (mdOk ns.length (li ns) (li us) && isF L) = false := by rw [hf, Bool.and_false]
    have b2 : (mdOk qs.length (li qs) (li ts) && isF L) = false := by rw [hf, Bool.and_false]
    have e : ∀ {ns us : List Nat} (h : MdN ns us), (li us).length = 6 := fun h => by rw [li_length, h.l]
    refine ⟨0, 0, 1, by decide, by decide, fun W A0 c0 A1 c1 v hm hv => ?_, fun W A0 c0 A1 c1 v hm hv => ?_, fun W A0 c0 A1 c1 v hm hv => ?_, fun W A0 c0 A1 c1 v hm hv => ?_, .inr rfl⟩
    · exact impl_TruthSet_bad _ _ _ v _ _ L W hm.a hm.u hv (l1 H.m).1 (l1 H.m).2 (by omega) b1
    · exact impl_TruthSet_bad _ _ _ v _ _ L W hm.a hm.u hv (l1 H.n).1 (l1 H.n).2 (by omega) b2
    · exact spec_TruthSet_bad _ _ _ v _ _ L W hm.a hm.u hv (l1 H.m).1 (l1 H.m).2 (by omega) b1
    · exact spec_TruthSet_bad _ _ _ v _ _ L W hm.a hm.u hv (l1 H.n).1 (l1 H.n).2 (by omega) b2
  · obtain ⟨f, hok, rfl, hl⟩ := (isF_iff _).1 hf
    have t8 : ∀ {ns us : List Nat} (h : MdN ns us), tv ns us f < 256 := fun h => Nat.lt_of_lt_of_le (tv_lt _ _ h.b f) (two_pow_256 h.r.1)
    exact ⟨tv ns us f, tv qs ts f, 0, t8 H.m, t8 H.n, fun W A0 c0 A1 c1 v hm hv => impl_TruthSet_ok ns us f A0 A1 c0 c1 v W hm H.m hv hok hl (mdN_ok7 H.m) hf, fun W A0 c0 A1 c1 v hm hv => impl_TruthSet_ok qs ts f A0 A1 c0 c1 v W hm H.n hv hok hl (mdN_ok7 H.n) hf,
      fun W A0 c0 A1 c1 v hm hv => spec_TruthSet_ok ns us f A0 A1 c0 c1 v W hm H.m hv hok hl (mdN_ok7 H.m) hf, fun W A0 c0 A1 c1 v hm hv => spec_TruthSet_ok qs ts f A0 A1 c0 c1 v W hm H.n hv hok hl (mdN_ok7 H.n) hf, .inl ⟨rfl, ht f⟩⟩
theorem q_bit5 {m i : Nat} {b : Bool} (hb : m.testBit i = b) (hm : m < 256) (hi : i < 64) (W : World) (k : Nat) :
    Calls Tryz.prog 18 #[.int .i64 m, .int .i64 i] (W.drewN k) fun e w'' => e = .returned (.bool b) ∧ ∃ q, w'' = W.drewN q :=
  (laws_bit5 m i _ (by omega) hi).mono fun e w' hh => ⟨by rw [hh.1, hb], k, hh.2.symm⟩
end Go.Proofs.YtnolbgdbboiehaaGreat

/- Contracts of chapter 12, of the reference: what types see; witnesses; what stays. -/
import Derived.Test.YtgcoohlakcncbaaGreat12T
import Derived.Test.YtgcoohlakcncbaaGreat12H
namespace Go.Proofs.YtgcoohlakcncbaaGreat
open Go.RowKit
set_option linter.unusedVariables false
set_option linter.unusedSimpArgs false
def pst1 (P : List Fm) (t u i : Nat) : Bool := !(ism P i) || !dmd P t i || (mts P u i && dmd P u i)
def psK (P : List Fm) (t u k : Nat) : Bool := (List.range k).all (pst1 P t u)
def sst1 (P : List Fm) (t u i : Nat) : Bool := ism P i && dmd P u i && !dmd P t i
def stK (P : List Fm) (t u k : Nat) : Bool := (List.range k).any (sst1 P t u)
theorem psK_succ (P : List Fm) (t u k : Nat) : psK P t u (k + 1) = (psK P t u k && pst1 P t u k) := by unfold psK; rw [List.range_succ, List.all_append]; simp
theorem stK_succ (P : List Fm) (t u k : Nat) : stK P t u (k + 1) = (stK P t u k || sst1 P t u k) := by unfold stK; rw [List.range_succ, List.any_append]; simp
theorem psK_no {P : List Fm} {t u k : Nat} (hk : k < P.length) (h : pst1 P t u k = false) : seT P t u = false := by
  unfold seT psT
  have : (List.range P.length).all (pst1 P t u) = false := by
    rw [← Bool.not_eq_true, List.all_eq_true]
    intro hh
    rw [hh k (List.mem_range.2 hk)] at h
    cases h
  show ((List.range P.length).all (pst1 P t u) && _) = false
  rw [this, Bool.false_and]
theorem seT_K (P : List Fm) (t u : Nat) : seT P t u = (psK P t u P.length && stK P t u P.length) := rfl
/-- the two tests at a part, by its kind and three bits -/
theorem st1_kd {P : List Fm} {t u i : Nat} (hi : i < P.length) (hel : isel (P.getD i .fls) = true) :
    (kdF (P.getD i .fls) = 0 ∧ pst1 P t u i = true ∧ sst1 P t u i = false) ∨
    (kdF (P.getD i .fls) = 5 ∧ pst1 P t u i = (!t.testBit i || ((trT P u).testBit i && u.testBit i)) ∧ sst1 P t u i = (u.testBit i && !t.testBit i)) ∨
    (kdF (P.getD i .fls) = 6 ∧ pst1 P t u i = (t.testBit i || (!(trT P u).testBit i && !u.testBit i)) ∧ sst1 P t u i = (!u.testBit i && t.testBit i)) := by
  have hism := kdF_ism hi hel
  cases hm : ism P i
  · rw [hm] at hism
    refine .inl ⟨?_, by unfold pst1; rw [hm]; rfl, by unfold sst1; rw [hm]; rfl⟩
    have := kdF_el (P.getD i .fls)
    rw [hel, ← hism, Bool.or_false] at this
    simpa using this.symm
  · rw [hm] at hism
    have e1 := dmd_eq (t := t) hm
    have e2 := dmd_eq (t := u) hm
    have e3 := mts_eq (t := u) hm
    rw [← trT_bit hi hm] at e3
    have hk : kdF (P.getD i .fls) = 5 ∨ kdF (P.getD i .fls) = 6 := by
      rw [eq_comm, Bool.or_eq_true] at hism
      simpa using hism
    rcases hk with hk | hk
    · refine .inr (.inl ⟨hk, ?_, ?_⟩)
      · unfold pst1; rw [hm, e1, e2, e3, hk]; cases t.testBit i <;> cases (trT P u).testBit i <;> cases u.testBit i <;> rfl
      · unfold sst1; rw [hm, e1, e2, hk]; cases t.testBit i <;> cases u.testBit i <;> rfl
    · refine .inr (.inr ⟨hk, ?_, ?_⟩)
      · unfold pst1; rw [hm, e1, e2, e3, hk]; cases t.testBit i <;> cases (trT P u).testBit i <;> cases u.testBit i <;> rfl
      · unfold sst1; rw [hm, e1, e2, hk]; cases t.testBit i <;> cases u.testBit i <;> rfl
theorem map_get {α β : Type} (f : α → β) (P : List α) (d : α) {k : Nat} (h : k < (P.map f).length) : (P.map f)[k] = f (P.getD k d) := by
  rw [List.getElem_map]
  rw [List.length_map] at h
  rw [List.getD_eq_getElem?_getD, List.getElem?_eq_getElem h]
  rfl
set_option maxRecDepth 100000 in
set_option maxHeartbeats 4000000 in
theorem spec_l12One (P : List Fm) (N p t u : Nat) (hP : P.length ≤ 8) (hN : N = 2 ^ P.length) (ht : t < N) (hu : u < N) (hel : ∀ i, i < P.length → isel (P.getD i .fls) = true) (w : World) (hT : SpR P N p w) :
    Calls Tryz.prog 294 #[.pointer (some ⟨p, 0, none⟩), .int .i64 (t : Int), .int .i64 (u : Int)] w fun e w' => e = .returned (.bool (seT P t u)) ∧ Below w.heap.size w w' := by
  have hN256 : N ≤ 256 := by rw [hN]; exact pow8 hP
  have hTU : trT P u < 256 := by have := trT_lt P u; have := pow8 hP; omega
  have HSE : Hid (seT P t u = (psK P t u P.length && stK P t u P.length)) := Lib.hid rfl
  have HNO : Hid (∀ k, k < P.length → pst1 P t u k = false → seT P t u = false) := Lib.hid fun k hk h => psK_no hk h
  have HEL := Lib.hid hel
  have HT := Lib.hid hT
  clear hel hN
  have q4u : u < (trL P N).length := by rw [trL_length]; exact hu
  have HKD := Lib.hid (fun k (hk : k < P.length) => st1_kd (t := t) (u := u) hk (HEL.out k hk))
  have iu : (u : Int) < (N : Int) := by omega
  obtain ⟨A1', A2', A4', c1', c2', c4', h0', q0', q1', -, -, -, -, -⟩ := hT
  go_enter Tryz.func294, Tryz.ntmps294
  go_wp2
  clear h0' q0' q1'
  go_loopw [7, 8, 9, 10, 11, 12] (fun sv i x9 x10 x11 x12 wr => ∃ (j : Nat) (s : Bool), j ≤ P.length ∧ i = .int .i64 j ∧ sv = .bool s ∧ s = stK P t u j ∧ psK P t u j = true ∧ Below w.heap.size w wr) (fun _ i _ _ _ _ _ => P.length - (intOf i).toNat)
  case atStart => exact ⟨0, false, Nat.zero_le _, rfl, rfl, rfl, rfl, Below.refl _ _⟩
  case round =>
    obtain ⟨j, s, hj, rfl, rfl, hs, hps, hb⟩ := hrel
    have HS := Lib.hid hs
    have HPS := Lib.hid hps
    have HB := Lib.hid hb
    obtain ⟨A1, A2, A4, c1, c2, c4, h0, q0, q1, q2, q4, -, s2, s4⟩ := HT.out.below hb
    obtain ⟨b4, o4, rfl, hb4, hc4⟩ := s4.atI q4u
    rw [trL_get] at hc4
    clear hs hps hb s4
    by_cases hlt : j < P.length
    · have i1 : (j : Int) < (P.length : Int) := by omega
      obtain ⟨b2, o2, rfl, hb2, hc2⟩ := s2.atI (k := j) (by rw [List.length_map]; exact hlt)
      rw [map_get kdF P .fls] at hc2
      have HPN := psK_succ P t u j
      have HSN := stK_succ P t u j
      rw [HPS.out, Bool.true_and] at HPN
      rw [← HS.out] at HSN
      have Q1 := Lib.hid (fun n => q_l01Bit (m := t) (i := j) (by omega) (by omega) wr n)
      have Q2 := Lib.hid (fun n => q_l01Bit (m := u) (i := j) (by omega) (by omega) wr n)
      have Q3 := Lib.hid (fun n => q_l01Bit (m := trT P u) (i := j) (by omega) (by omega) wr n)
      have HN0 := Lib.hid (HNO.out j hlt)
      clear s2
      rcases HKD.out j hlt with ⟨hk, e1, e2⟩ | ⟨hk, e1, e2⟩ | ⟨hk, e1, e2⟩
      · rw [hk] at hc2
        rw [e1] at HPN
        rw [e2, Bool.or_false] at HSN
        have HPN := Lib.hid HPN
        have HSN := Lib.hid HSN
        clear hk e1 e2
        go_wp2
        go_roundw
        case rel => exact ⟨j + 1, s, by omega, by go_num, rfl, HSN.out.symm, HPN.out, HB.out⟩
        case measure => simp [intOf]; omega
      all_goals
        rw [hk] at hc2
        rw [e1] at HPN HN0
        rw [e2] at HSN
        have HPN := Lib.hid HPN
        have HSN := Lib.hid HSN
        clear hk e1 e2
        generalize t.testBit j = r1 at *
        generalize u.testBit j = r2 at *
        generalize (trT P u).testBit j = r3 at *
        generalize trT P u = m4 at *
        cases r1 <;> cases r2 <;> cases r3 <;> cases s
      all_goals
        go_wp2
        go_quiet ((go_at_call 268; first | with_reducible exact Q1.out _ | with_reducible exact Q2.out _ | with_reducible exact Q3.out _))
        go_wp2
        first
          | (go_ret
             exact ⟨by rw [HN0.out rfl]; rfl, below_drewN HB.out _⟩)
          | (go_roundw
             case rel => exact ⟨j + 1, _, by omega, by go_num, rfl, HSN.out.symm, HPN.out, below_drewN HB.out _⟩
             case measure => simp [intOf]; omega)
    · obtain rfl : j = P.length := by omega
      have e : seT P t u = s := by rw [HSE.out, HPS.out, Bool.true_and, HS.out]
      have HE := Lib.hid e
      clear e
      go_wp2
      go_ret
      exact ⟨by rw [HE.out]; rfl, HB.out⟩
end Go.Proofs.YtgcoohlakcncbaaGreat

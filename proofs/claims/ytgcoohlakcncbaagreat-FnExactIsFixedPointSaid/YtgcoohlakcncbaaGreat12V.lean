/- Contracts of chapter 12, of the reference: witnesses; what stays. -/
import Derived.Test.YtgcoohlakcncbaaGreat12U
namespace Go.Proofs.YtgcoohlakcncbaaGreat
open Go.RowKit
set_option linter.unusedVariables false
set_option linter.unusedSimpArgs false
theorem spec_l12Sees (P : List Fm) (N p t u : Nat) (hP : P.length ≤ 8) (hN : N = 2 ^ P.length) (ht : t < N) (hu : u < N) (hel : ∀ i, i < P.length → isel (P.getD i .fls) = true) (w : World) (hT : SpR P N p w) :
    Calls Tryz.prog 271 #[.pointer (some ⟨p, 0, none⟩), .int .i64 (t : Int), .int .i64 (u : Int)] w fun e w' => e = .returned (.bool (seT P t u)) ∧ Below w.heap.size w w' := by
  have H1 := Lib.hid (spec_l12One P N p t u hP hN ht hu hel w hT)
  have HT := Lib.hid hT
  clear hT hel
  generalize seT P t u = rs at *
  go_enter Tryz.func271, Tryz.ntmps271
  go_wp2_with fail
  refine H1.out.mono ?_
  rintro e w1 ⟨rfl, hb⟩
  have HB := Lib.hid hb
  obtain ⟨A1, A2, A4, c1, c2, c4, h0, q0, -, -, -, -, -, -⟩ := HT.out.below hb
  clear hb
  cases rs
  · go_wp2
    go_ret
    exact ⟨rfl, HB.out⟩
  · go_wp2
    go_ret
    exact ⟨rfl, HB.out⟩
theorem spec_l12Asks (P : List Fm) (N p t i : Nat) (hP : P.length ≤ 8) (hN : N = 2 ^ P.length) (ht : t < N) (hi : i < P.length) (hel : isel (P.getD i .fls) = true) (w : World) (hT : SpR P N p w) :
    Calls Tryz.prog 269 #[.pointer (some ⟨p, 0, none⟩), .int .i64 (t : Int), .int .i64 (i : Int)] w fun e w' => e = .returned (.bool (ism P i && !dmd P t i)) ∧ w' = w := by
  have hN256 : N ≤ 256 := by rw [hN]; exact pow8 hP
  obtain ⟨A1, A2, A4, c1, c2, c4, h0, q0, q1, q2, q4, -, s2, -⟩ := hT
  obtain ⟨b2, o2, rfl, hb2, hc2⟩ := s2.atI (k := i) (by rw [List.length_map]; exact hi)
  rw [map_get kdF P .fls] at hc2
  have HB := Lib.hid (spec_l01Bit t i w (by omega) (by omega))
  have i1 : (i : Int) < (P.length : Int) := by omega
  have hism := kdF_ism hi hel
  have hke := kdF_el (P.getD i .fls)
  rw [hel] at hke
  clear s2 hel
  cases hm : ism P i
  · rw [hm] at hism
    have hk : kdF (P.getD i .fls) = 0 := by rw [← hism, Bool.or_false] at hke; simpa using hke.symm
    rw [hk] at hc2
    clear hk hke hism hm
    go_enter Tryz.func269, Tryz.ntmps269
    go_wp2
    go_ret
    exact ⟨rfl, rfl⟩
  · have hd := dmd_eq (t := t) hm
    rw [hm] at hism
    have hk : kdF (P.getD i .fls) = 5 ∨ kdF (P.getD i .fls) = 6 := by
      rw [eq_comm, Bool.or_eq_true] at hism
      simpa using hism
    rw [hd]
    generalize kdF (P.getD i .fls) = kk at *
    clear hd hke hism hm
    rcases hk with rfl | rfl
    all_goals
      generalize t.testBit i = r at *
      go_enter Tryz.func269, Tryz.ntmps269
      go_wp2_with fail
      refine HB.out.mono ?_
      rintro e w3 ⟨rfl, rfl⟩
      cases r
    all_goals
      go_wp2
      go_ret
      exact ⟨rfl, rfl⟩
set_option maxRecDepth 100000 in
theorem spec_l12Shows (P : List Fm) (N p t u i : Nat) (hP : P.length ≤ 8) (hN : N = 2 ^ P.length) (ht : t < N) (hu : u < N) (hi : i < P.length) (hel : ∀ i, i < P.length → isel (P.getD i .fls) = true) (hm : ism P i = true) (w : World) (hT : SpR P N p w) :
    Calls Tryz.prog 270 #[.pointer (some ⟨p, 0, none⟩), .int .i64 (t : Int), .int .i64 (u : Int), .int .i64 (i : Int)] w fun e w' => e = .returned (.bool (wiT P i t u)) ∧ Below w.heap.size w w' := by
  have hN256 : N ≤ 256 := by rw [hN]; exact pow8 hP
  have hTU : trT P u < 256 := by have := trT_lt P u; have := pow8 hP; omega
  have q4u : u < (trL P N).length := by rw [trL_length]; exact hu
  have HS := Lib.hid (fun W h => spec_l12Sees P N p t u hP hN ht hu hel W h)
  have HT := Lib.hid hT
  obtain ⟨A1, A2, A4, c1, c2, c4, h0, q0, q1, q2, q4, -, s2, s4⟩ := hT
  obtain ⟨b2, o2, rfl, hb2, hc2⟩ := s2.atI (k := i) (by rw [List.length_map]; exact hi)
  obtain ⟨b4, o4, rfl, hb4, hc4⟩ := s4.atI q4u
  rw [trL_get] at hc4
  rw [map_get kdF P .fls] at hc2
  have HB := Lib.hid (fun W => spec_l01Bit (trT P u) i W (by omega) (by omega))
  have HB2 := Lib.hid (fun W => spec_l01Bit u i W (by omega) (by omega))
  have i1 : (i : Int) < (P.length : Int) := by omega
  have iu : (u : Int) < (N : Int) := by omega
  have hism := kdF_ism hi (hel i hi)
  have hd := dmd_eq (t := u) hm
  have hmt := mts_eq (t := u) hm
  rw [← trT_bit hi hm] at hmt
  have hw : wiT P i t u = (seT P t u && !mts P u i && dmd P u i) := rfl
  rw [hmt, hd] at hw
  rw [hw]
  rw [hm] at hism
  have hk : kdF (P.getD i .fls) = 5 ∨ kdF (P.getD i .fls) = 6 := by
    rw [eq_comm, Bool.or_eq_true] at hism
    simpa using hism
  clear s2 s4 hel hd hmt hw hism hm
  generalize kdF (P.getD i .fls) = kk at *
  generalize seT P t u = rs at *
  generalize u.testBit i = ru at *
  generalize (trT P u).testBit i = r4 at *
  generalize trT P u = m4 at *
  rcases hk with rfl | rfl
  all_goals
    go_enter Tryz.func270, Tryz.ntmps270
    go_wp2_with fail
    refine (HB.out _).mono ?_
    rintro e w3 ⟨rfl, rfl⟩
    cases r4
  all_goals first
    | (go_wp2
       go_ret
       exact ⟨by cases rs <;> cases ru <;> rfl, Below.refl _ _⟩)
    | (go_wp2_with fail
       refine (HS.out _ HT.out).mono ?_
       rintro e w4 ⟨rfl, hb⟩
       have HB4 := Lib.hid hb
       have h0' : p < w4.heap.size := Nat.lt_of_lt_of_le h0 hb.size
       have q0' := (hb.cell (p := ⟨p, 0, none⟩) h0).trans q0
       clear hb q0 q1 q2 q4 hc2 hc4 hb2 hb4 h0
       cases rs
       · go_wp2
         go_ret
         exact ⟨rfl, HB4.out⟩
       · go_wp2_with fail
         refine (HB2.out _).mono ?_
         rintro e w5 ⟨rfl, rfl⟩
         go_wp2
         go_ret
         exact ⟨by cases ru <;> rfl, HB4.out⟩)
end Go.Proofs.YtgcoohlakcncbaaGreat

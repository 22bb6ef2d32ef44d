/- Joined of several texts: 32r, 32s, 32t, 32k, 32l, 32m. -/
import Derived.Test.YtgcoohlakcncbaaGreatB1
import Derived.Test.YtgcoohlakcncbaaGreatLB
import Derived.Deep.RegionHeld3
namespace Go.Proofs.YtgcoohlakcncbaaGreat
open Go.RowKit
set_option linter.unusedVariables false
set_option linter.unusedSimpArgs false
/- Contracts of chapter 32: the ranks at which a formula is true, of the program (a mask). -/
theorem impl_boxRanks (s : Nat) (w : World) (hs : s < 2305843009213693952) :
    Calls Tryz.prog 188 #[.int .i64 s] w fun e w' => e = .returned (.int .i64 (msk (fun n => (List.range n).all s.testBit) 61 : Nat)) ∧ w = w' := by
  go_enter Tryz.func188, Tryz.ntmps188
  go_wp2
  go_loop [3, 6] (fun m i => ∃ j : Nat, j ≤ 61 ∧ i = .int .i64 j ∧ m = .int .i64 (msk (fun n => (List.range n).all s.testBit) j : Nat)) (fun _ i => 61 - (intOf i).toNat)
  case atStart => exact ⟨0, by omega, rfl, rfl⟩
  case round =>
    obtain ⟨j, hj, rfl, rfl⟩ := hrel
    by_cases hlt : j < 61
    · have h2 := two_pow_le (n := j) (by omega)
      have h3 : (0 : Int) < 2 ^ j := Int.pow_pos (by decide)
      have e1 := wrap_two_pow (n := j) (by omega)
      have h2n : 2 ^ j ≤ 4611686018427387904 := Nat.pow_le_pow_right (n := 2) (by decide) (show j ≤ 62 by omega)
      have h3n : 0 < 2 ^ j := Nat.pow_pos (by decide)
      have c1 : ((2 : Int) ^ j - 1) = ((2 ^ j - 1 : Nat) : Int) := by rw [cast_two_pow]; omega
      have e2 : (bits .and .i64 (s : Int) ((2 : Int) ^ j - 1) == (2 : Int) ^ j - 1) = (List.range j).all s.testBit := by
        rw [c1, i64_and_nat _ _ (by omega) (by omega), ← all_below, Bool.eq_iff_iff, beq_iff_eq, beq_iff_eq]
        omega
      have hm : msk (fun n => (List.range n).all s.testBit) j < 9223372036854775808 := Nat.lt_of_lt_of_le (msk_lt _ _) (Nat.le_trans h2n (by decide))
      have HS : Hid (msk (fun n => (List.range n).all s.testBit) (j + 1) = msk (fun n => (List.range n).all s.testBit) j ||| if (List.range j).all s.testBit then 2 ^ j else 0) := Lib.hid rfl
      have HC := Lib.hid c1; clear c1 h2n h3n
      by_cases ha : (List.range j).all s.testBit = true
      · rw [ha] at e2
        rw [if_pos ha] at HS
        clear ha
        have e3 : bits .or .i64 (msk (fun n => (List.range n).all s.testBit) j : Nat) ((2 : Int) ^ j) = ((msk (fun n => (List.range n).all s.testBit) j ||| 2 ^ j : Nat) : Int) := by
          rw [cast_two_pow]; exact i64_or_nat _ _ hm (two_pow_lt (by omega))
        generalize msk (fun n => (List.range n).all s.testBit) j = q at *
        go_wp2
        go_round
        case rel => exact ⟨j + 1, by omega, by go_num, by rw [HS.out]⟩
        case measure => simp [intOf]; omega
      · rw [Bool.not_eq_true] at ha
        rw [ha] at e2
        rw [ha] at HS
        clear ha
        generalize msk (fun n => (List.range n).all s.testBit) j = q at *
        go_wp2
        go_round
        case rel => exact ⟨j + 1, by omega, by go_num, by rw [HS.out]; simp⟩
        case measure => simp [intOf]; omega
    · obtain rfl : j = 61 := by omega
      go_wp2
      go_ret
      exact ⟨rfl, rfl⟩
theorem enc_un (k : UK) (a : Fm) : enc (.un k a) = (k.i, 0) :: (enc a ++ []) := by simp [enc]
theorem enc_bin (k : BK) (a b : Fm) : enc (.bin k a b) = (k.i, 0) :: (enc a ++ (enc b ++ [])) := by simp [enc]
/-- the first node of a list that is not empty -/
theorem Sl.atN0 {w : World} {A : Option Addr} {n c : Nat} {x : Nd} {xs : List Nd} (h : Sl cN w (.slice A n c) (x :: xs)) :
    ∃ b o, A = some ⟨b, o, none⟩ ∧ b < w.heap.size ∧ w.cell? ⟨b, o, none⟩ = some (.int .i64 x.1) ∧ w.cell? ⟨b, o + 1, none⟩ = some (.int .i64 x.2) := by
  obtain ⟨b, o, hA, hb, h0, h1⟩ := h.atN (k := 0) (by simp)
  exact ⟨b, o, hA, hb, by simpa using h0, by simpa using h1⟩
theorem impl_ranksOf (f : Fm) : ∀ (v : Value) (vs : Nat) (w : World) (hvs : vs < 2305843009213693952) (h : Sl cN w v (enc f)) (hl : (enc f).length ≤ 1048576),
    Calls Tryz.prog 109 #[v, .int .i64 vs] w fun e w' => e = .returned (.int .i64 (msk (rk f vs) 61 : Nat)) ∧ w = w' := by
  induction f with
  | var s =>
    intro v vs w hvs h hl
    obtain ⟨A, c, rfl⟩ := h.opn
    simp only [enc, List.length_cons, List.length_nil] at h ⊢
    obtain ⟨b, o, rfl, hb, hc0, hc1⟩ := h.atN0
    have E : Hid (msk (rk (.var s) vs) 61 = vs) := Lib.hid (msk_eq 61 _ (by omega) fun i hi => rfl).symm
    go_enter Tryz.func109, Tryz.ntmps109
    go_wp2
    go_ret
    exact ⟨by rw [E.out]; rfl, rfl⟩
  | fls =>
    intro v vs w hvs h hl
    obtain ⟨A, c, rfl⟩ := h.opn
    simp only [enc, List.length_cons, List.length_nil] at h ⊢
    obtain ⟨b, o, rfl, hb, hc0, hc1⟩ := h.atN0
    have E : Hid (msk (rk .fls vs) 61 = 0) := Lib.hid (msk_eq (a := 0) 61 _ (by decide) fun i hi => by simp [rk]).symm
    go_enter Tryz.func109, Tryz.ntmps109
    go_wp2
    go_ret
    exact ⟨by rw [E.out]; rfl, rfl⟩
  | un k a ih =>
    intro v vs w hvs h hl
    rw [enc_un] at h hl
    have hf := impl_first _ _ a [] w h hl
    obtain ⟨A, c, rfl⟩ := h.opn
    obtain ⟨b, o, rfl, hb, hc0, hc1⟩ := h.atN0
    have HF := Lib.hid hf; clear hf
    have hl2 : (enc a).length ≤ 1048576 := by simp at hl; omega
    have HIH := Lib.hid (fun u w hs => ih u vs w hvs hs hl2); clear ih
    have hlt := msk_lt (rk a vs) 61
    have hL0 : 0 < ((k.i, (0 : Int)) :: (enc a ++ [])).length := by simp
    clear h
    generalize ((k.i, (0 : Int)) :: (enc a ++ [])).length = L at *
    cases k with
    | box =>
      simp only [UK.i] at hc0
      have E : Hid (msk (fun n => (List.range n).all (msk (rk a vs) 61).testBit) 61 = msk (rk (.un .box a) vs) 61) := Lib.hid (msk_congr _ _ _ fun i hi => msk_all _ _ _ (by omega))
      go_enter Tryz.func109, Tryz.ntmps109
      go_wp2_with fail
      refine HF.out.mono ?_
      rintro e w1 ⟨u, rfl, hs, rfl⟩
      go_wp2_with fail
      refine (HIH.out u _ hs).mono ?_
      rintro e w1 ⟨rfl, rfl⟩
      go_wp2_with fail
      refine (impl_boxRanks _ _ (by omega)).mono ?_
      rintro e w1 ⟨rfl, rfl⟩
      rw [E.out]
      go_wp2
      go_ret
      exact ⟨rfl, rfl⟩
    | dia =>
      simp only [UK.i] at hc0
      have E1 : Hid (andnot 2305843009213693951 (msk (rk a vs) 61) = msk (fun i => !rk a vs i) 61) := Lib.hid (not_msk _)
      have E2 : Hid (msk (fun n => (List.range n).all (msk (fun i => !rk a vs i) 61).testBit) 61 = msk (fun n => (List.range n).all fun i => !rk a vs i) 61) := Lib.hid (msk_congr _ _ _ fun i hi => msk_all _ _ _ (by omega))
      have E3 : Hid (andnot 2305843009213693951 (msk (fun n => (List.range n).all fun i => !rk a vs i) 61) = msk (rk (.un .dia a) vs) 61) := by
        show _ = _
        rw [not_msk]
        exact msk_congr _ _ _ fun i hi => (any_not_all _ _).symm
      have hlt2 := msk_lt (fun i => !rk a vs i) 61
      have hlt3 := msk_lt (fun n => (List.range n).all fun i => !rk a vs i) 61
      have n1 : bits .andNot .i64 2305843009213693951 (msk (rk a vs) 61 : Nat) = ((msk (fun i => !rk a vs i) 61 : Nat) : Int) := by
        rw [← E1.out]; exact i64_andNot_nat 2305843009213693951 (msk (rk a vs) 61) (by decide) (by omega)
      have n2 : bits .andNot .i64 2305843009213693951 (msk (fun n => (List.range n).all fun i => !rk a vs i) 61 : Nat) = ((msk (rk (.un .dia a) vs) 61 : Nat) : Int) := by
        rw [← E3.out]; exact i64_andNot_nat 2305843009213693951 (msk (fun n => (List.range n).all fun i => !rk a vs i) 61) (by decide) (by omega)
      generalize msk (rk a vs) 61 = q1 at *
      generalize msk (fun i => !rk a vs i) 61 = q2 at *
      generalize msk (fun n => (List.range n).all fun i => !rk a vs i) 61 = q3 at *
      generalize msk (rk (.un .dia a) vs) 61 = q4 at *
      go_enter Tryz.func109, Tryz.ntmps109
      go_wp2_with fail
      refine HF.out.mono ?_
      rintro e w1 ⟨u, rfl, hs, rfl⟩
      go_wp2_with fail
      refine (HIH.out u _ hs).mono ?_
      rintro e w1 ⟨rfl, rfl⟩
      go_wp2_with fail
      refine (impl_boxRanks q2 _ (by omega)).mono ?_
      rintro e w1 ⟨rfl, rfl⟩
      rw [E2.out]
      go_wp2
      go_ret
      exact ⟨rfl, rfl⟩
  | bin k a b iha ihb =>
    intro v vs w hvs h hl
    rw [enc_bin] at h hl
    have hf := impl_first _ _ a _ w h hl
    have hg := impl_second _ _ a b [] w h hl
    obtain ⟨A, c, rfl⟩ := h.opn
    obtain ⟨bb, o, rfl, hb, hc0, hc1⟩ := h.atN0
    have HF := Lib.hid hf; clear hf
    have HG := Lib.hid hg; clear hg
    have hl2 : (enc a).length ≤ 1048576 := by simp at hl; omega
    have hl3 : (enc b).length ≤ 1048576 := by simp at hl; omega
    have HIA := Lib.hid (fun u w hs => iha u vs w hvs hs hl2); clear iha
    have HIB := Lib.hid (fun u w hs => ihb u vs w hvs hs hl3); clear ihb
    have hL0 : 0 < ((k.i, (0 : Int)) :: (enc a ++ (enc b ++ []))).length := by simp
    have hlt1 := msk_lt (rk a vs) 61
    have hlt2 := msk_lt (rk b vs) 61
    have hlt3 := msk_lt (fun i => !rk a vs i) 61
    clear h
    generalize ((k.i, (0 : Int)) :: (enc a ++ (enc b ++ []))).length = L at *
    have n1 : Hid (bits .and .i64 (msk (rk a vs) 61 : Nat) (msk (rk b vs) 61 : Nat) = ((msk (rk (.bin .and a b) vs) 61 : Nat) : Int)) := by
      show _ = _
      rw [i64_and_nat _ _ (by omega) (by omega), and_msk]
      rfl
    have n2 : Hid (bits .or .i64 (msk (rk a vs) 61 : Nat) (msk (rk b vs) 61 : Nat) = ((msk (rk (.bin .or a b) vs) 61 : Nat) : Int)) := by
      show _ = _
      rw [i64_or_nat _ _ (by omega) (by omega), or_msk]
      rfl
    have n3 : Hid (bits .andNot .i64 2305843009213693951 (msk (rk a vs) 61 : Nat) = ((msk (fun i => !rk a vs i) 61 : Nat) : Int)) := by
      show _ = _
      rw [← not_msk]; exact i64_andNot_nat 2305843009213693951 _ (by decide) (by omega)
    have n4 : Hid (bits .or .i64 (msk (fun i => !rk a vs i) 61 : Nat) (msk (rk b vs) 61 : Nat) = ((msk (rk (.bin .imp a b) vs) 61 : Nat) : Int)) := by
      show _ = _
      rw [i64_or_nat _ _ (by omega) (by omega), or_msk]
      rfl
    generalize msk (rk a vs) 61 = q1 at *
    generalize msk (rk b vs) 61 = q2 at *
    generalize msk (fun i => !rk a vs i) 61 = q3 at *
    cases k with
    | and =>
      simp only [BK.i] at hc0
      generalize msk (rk (.bin .and a b) vs) 61 = q4 at *
      have m1 := n1.out
      clear n1 n2 n3 n4
      go_enter Tryz.func109, Tryz.ntmps109
      go_wp2_with fail
      refine HF.out.mono ?_
      rintro e w1 ⟨u, rfl, hs, rfl⟩
      go_wp2_with fail
      refine (HIA.out u _ hs).mono ?_
      rintro e w1 ⟨rfl, rfl⟩
      go_wp2_with fail
      refine HG.out.mono ?_
      rintro e w1 ⟨u2, rfl, hs2, rfl⟩
      go_wp2_with fail
      refine (HIB.out u2 _ hs2).mono ?_
      rintro e w1 ⟨rfl, rfl⟩
      go_wp2
      go_ret
      exact ⟨rfl, rfl⟩
    | or =>
      simp only [BK.i] at hc0
      generalize msk (rk (.bin .or a b) vs) 61 = q4 at *
      have m1 := n2.out
      clear n1 n2 n3 n4
      go_enter Tryz.func109, Tryz.ntmps109
      go_wp2_with fail
      refine HF.out.mono ?_
      rintro e w1 ⟨u, rfl, hs, rfl⟩
      go_wp2_with fail
      refine (HIA.out u _ hs).mono ?_
      rintro e w1 ⟨rfl, rfl⟩
      go_wp2_with fail
      refine HG.out.mono ?_
      rintro e w1 ⟨u2, rfl, hs2, rfl⟩
      go_wp2_with fail
      refine (HIB.out u2 _ hs2).mono ?_
      rintro e w1 ⟨rfl, rfl⟩
      go_wp2
      go_ret
      exact ⟨rfl, rfl⟩
    | imp =>
      simp only [BK.i] at hc0
      generalize msk (rk (.bin .imp a b) vs) 61 = q4 at *
      have m1 := n3.out
      have m2 := n4.out
      clear n1 n2 n3 n4
      go_enter Tryz.func109, Tryz.ntmps109
      go_wp2_with fail
      refine HF.out.mono ?_
      rintro e w1 ⟨u, rfl, hs, rfl⟩
      go_wp2_with fail
      refine (HIA.out u _ hs).mono ?_
      rintro e w1 ⟨rfl, rfl⟩
      go_wp2_with fail
      refine HG.out.mono ?_
      rintro e w1 ⟨u2, rfl, hs2, rfl⟩
      go_wp2_with fail
      refine (HIB.out u2 _ hs2).mono ?_
      rintro e w1 ⟨rfl, rfl⟩
      go_wp2
      go_ret
      exact ⟨rfl, rfl⟩
/- Contracts of chapter 32: the ranks at which a letterless formula is true, of the reference (a row). -/
/-- a formula without variables -/
def Fm.novar : Fm → Bool
  | .var _ => false
  | .fls => true
  | .bin _ a b => a.novar && b.novar
  | .un _ a => a.novar
def row (f : Fm) : List Bool := (List.range 61).map (rk f 0)
theorem row_length (f : Fm) : (row f).length = 61 := by simp [row]
theorem row_get (f : Fm) (j : Nat) (h : j < (row f).length) : (row f)[j] = rk f 0 j := by simp [row]
/-- one more of a row that is being filled -/
theorem set_map_replicate {α : Type} (p : Nat → α) (z : α) (n j : Nat) (h : j < n) : ((List.range j).map p ++ List.replicate (n - j) z).set j (p j) = (List.range (j + 1)).map p ++ List.replicate (n - (j + 1)) z := by
  rw [List.set_append, if_neg (by simp)]
  obtain ⟨m, hm⟩ : ∃ m, n - j = m + 1 := ⟨n - j - 1, by omega⟩
  rw [hm, show n - (j + 1) = m from by omega, List.replicate_succ]
  simp [List.range_succ]
theorem ty_bool : Ty Tryz.prog 129 4 (.bool false) 1 1 := Ty.mk' Tryz.underlying129 (by kernel_rfl) rfl (by decide)
theorem Sl.atB {w : World} {A : Option Addr} {n c : Nat} {xs : List Bool} (h : Sl cB w (.slice A n c) xs) {k : Nat} (hk : k < xs.length) :
    ∃ b o, A = some ⟨b, o, none⟩ ∧ b < w.heap.size ∧ w.cell? ⟨b, o + k, none⟩ = some (.bool xs[k]) := by
  obtain ⟨b, o, hA, hb, hc⟩ := h.cell hk
  have := hc 0 (.bool xs[k]) rfl
  exact ⟨b, o, hA, hb, by simpa [cB] using this⟩
set_option maxRecDepth 100000 in
theorem spec_l32Row_box (a : Fm) (ih : ∀ (v : Value) (w : World), Sl cN w v (enc a) → Calls Tryz.prog 116 #[v] w fun e w' => ∃ u, e = .returned u ∧ Ow cB 4 w.heap.size w' u (row a) ∧ Below w.heap.size w w')
    (v : Value) (w : World) (h : Sl cN w v (enc (.un .box a))) (hl : (enc (.un .box a)).length ≤ 1048576) :
    Calls Tryz.prog 116 #[v] w fun e w' => ∃ u, e = .returned u ∧ Ow cB 4 w.heap.size w' u (row (.un .box a)) ∧ Below w.heap.size w w' := by
  rw [enc_un] at h hl
  obtain ⟨A, c, rfl⟩ := h.opn
  obtain ⟨-, hcap, hm⟩ := h.cap
  obtain ⟨b, o, rfl, hb, hc0, hc1⟩ := h.atN0
  simp only [UK.i] at hc0
  have hL0 : 1 < ((UK.box.i, (0 : Int)) :: (enc a ++ [])).length := by have := enc_pos a; simp; omega
  have hcut := h.cutAt (A' := some ⟨b, o + 2, none⟩) (n' := ((UK.box.i, (0 : Int)) :: (enc a ++ [])).length - 1) (i := 1) (j := ((UK.box.i, (0 : Int)) :: (enc a ++ [])).length) (c' := c - 1) (by omega) (by omega) rfl
    (fun b' o' hA => by injection hA with hA; injection hA with h1 h2 _; subst h1; subst h2; rfl) (by omega) (by omega)
  have e1 : List.take (((UK.box.i, (0 : Int)) :: (enc a ++ [])).length - 1) (List.drop 1 ((UK.box.i, (0 : Int)) :: (enc a ++ []))) = enc a := by simp
  rw [e1] at hcut
  clear e1 h
  generalize ((UK.box.i, (0 : Int)) :: (enc a ++ [])).length = L at *
  have HIH := Lib.hid ih; clear ih
  go_enter Tryz.func116, Tryz.ntmps116
  go_wp2_with (at_make; refine stopHere ?_)
  refine goHere ?_
  refine mk_full (K := cB) w ty_bool rfl _ _ rfl w.heap.size 61 false rfl rfl rfl (by omega) (Nat.le_refl _) ?_
  intro w1 ho1 hg1 hb1 hsz1
  have hd0 : w1.cell? ⟨b, o, none⟩ = some (.int .i64 5) := (hb1.cell (p := ⟨b, o, none⟩) hb).trans hc0
  have hcut1 := hcut.below hb1
  have hbl : b < w1.heap.size := by omega
  have i1 : (1 : Int) ≤ (L : Int) := by omega
  have i2 : (0 : Int) < (L : Int) := by omega
  have i3 : 0 < L := by omega
  have i4 : ¬ c = 1 := by omega
  go_wp2
  go_region_held3 (fun w' => w'.cell? ⟨b, o, none⟩ = some (.int .i64 5)) (first | exact hd0 | (simp [*]; done)) (first | (go_at_call 116; refine (HIH.out _ _ (hcut1.below (below_drewN (Below.refl _ _) 1))).mono ?_; rintro e w2 ⟨u, rfl, ho2, hb2⟩; have hd2 : w2.cell? ⟨b, o, none⟩ = some (.int .i64 5) := (hb2.cell (p := ⟨b, o, none⟩) hbl).trans hd0))
  have ho3 : Ow cB 4 w1.heap.size w2 u (row a) := ho2
  have hb3 : Below w1.heap.size w1 w2 := (below_drewN (Below.refl _ _) 1).trans hb2
  have ho1' := ho1.below hb3
  have hB2 : Below w.heap.size w w2 := bthen hb1 hb3
  obtain ⟨A2, c2, rfl⟩ := ho3.opn
  clear hd0 hd2 hcut1 hcut hc0 hc1 ho2 hb2 ho1 hg1 hb1 hb3 i1 i2 i3 i4 HIH
  rw [row_length] at ho3 ⊢
  go_wp2
  go_loopw [6, 7] (fun q i wr => ∃ j : Nat, j ≤ 61 ∧ i = .int .i64 j ∧ q = .bool ((List.range j).all (rk a 0)) ∧ Ow cB 4 w.heap.size wr (.slice (some ⟨w.heap.size, 0, none⟩) 61 61) ((List.range j).map (rk (.un .box a) 0) ++ List.replicate (61 - j) false) ∧ Ow cB 4 w1.heap.size wr (.slice A2 61 c2) (row a) ∧ Below w.heap.size w wr) (fun _ i _ => 61 - (intOf i).toNat)
  case atStart => exact ⟨0, by omega, rfl, rfl, ho1', ho3, hB2⟩
  case round =>
    obtain ⟨j, hj, rfl, rfl, ho, hi, hb⟩ := hrel
    by_cases hlt : j < 61
    · obtain ⟨g2, rfl, hg2, hg2'⟩ := hi.head (by rw [row_length]; omega)
      obtain ⟨hx, -, -, -⟩ := hi.at1 rfl (j := j) (by rw [row_length]; exact hlt) rfl
      rw [row_get] at hx
      obtain ⟨hc1, hf1, -, hg1'⟩ := ho.at1 rfl (j := j) (by simp; omega) rfl
      obtain ⟨old, hc1⟩ : ∃ old, wr.cell? ⟨w.heap.size, j, none⟩ = some old := ⟨_, hc1⟩
      have hset := ho.set1 (j := j) (x := rk (.un .box a) 0 j) (u := .bool ((List.range j).all (rk a 0))) rfl rfl (by simp; omega)
      rw [set_map_replicate _ _ _ _ hlt] at hset
      have hi2 := hi.setBelow (p := ⟨w.heap.size, j, none⟩) hsz1 (.bool ((List.range j).all (rk a 0)))
      have hne : ¬ g2 = w.heap.size := by omega
      have HS := Lib.hid hset
      have HI := Lib.hid hi2
      have HB := Lib.hid (hb.setCell (p := ⟨w.heap.size, j, none⟩) (Nat.le_refl _) (.bool ((List.range j).all (rk a 0))))
      have HA : Hid ((List.range (j + 1)).all (rk a 0) = ((List.range j).all (rk a 0) && rk a 0 j)) := by
        show _ = _
        rw [List.range_succ, List.all_append]; simp
      clear ho hi hb hset hi2
      generalize hq : (List.range j).all (rk a 0) = q at *
      have HQ := Lib.hid hq; clear hq
      by_cases hr : rk a 0 j = true
      · rw [hr] at hx HA
        clear hr
        go_wp2
        go_roundw
        case rel => exact ⟨j + 1, by omega, by go_num, by rw [HA.out, Bool.and_true], HS.out, HI.out, HB.out⟩
        case measure => simp [intOf]; omega
      · rw [Bool.not_eq_true] at hr
        rw [hr] at hx HA
        clear hr
        go_wp2
        go_roundw
        case rel => exact ⟨j + 1, by omega, by go_num, by rw [HA.out, Bool.and_false], HS.out, HI.out, HB.out⟩
        case measure => simp [intOf]; omega
    · obtain rfl : j = 61 := by omega
      rw [Nat.sub_self, List.replicate_zero, List.append_nil] at ho
      have HO : Hid (Ow cB 4 w.heap.size wr (.slice (some ⟨w.heap.size, 0, none⟩) 61 61) (row (.un .box a))) := ho
      have HB := Lib.hid hb
      clear ho hb hi
      go_wp2
      go_ret
      exact ⟨_, rfl, HO.out, HB.out⟩
set_option maxRecDepth 100000 in
theorem spec_l32Row_dia (a : Fm) (ih : ∀ (v : Value) (w : World), Sl cN w v (enc a) → Calls Tryz.prog 116 #[v] w fun e w' => ∃ u, e = .returned u ∧ Ow cB 4 w.heap.size w' u (row a) ∧ Below w.heap.size w w')
    (v : Value) (w : World) (h : Sl cN w v (enc (.un .dia a))) (hl : (enc (.un .dia a)).length ≤ 1048576) :
    Calls Tryz.prog 116 #[v] w fun e w' => ∃ u, e = .returned u ∧ Ow cB 4 w.heap.size w' u (row (.un .dia a)) ∧ Below w.heap.size w w' := by
  rw [enc_un] at h hl
  obtain ⟨A, c, rfl⟩ := h.opn
  obtain ⟨-, hcap, hm⟩ := h.cap
  obtain ⟨b, o, rfl, hb, hc0, hc1⟩ := h.atN0
  simp only [UK.i] at hc0
  have hL0 : 1 < ((UK.dia.i, (0 : Int)) :: (enc a ++ [])).length := by have := enc_pos a; simp; omega
  have hcut := h.cutAt (A' := some ⟨b, o + 2, none⟩) (n' := ((UK.dia.i, (0 : Int)) :: (enc a ++ [])).length - 1) (i := 1) (j := ((UK.dia.i, (0 : Int)) :: (enc a ++ [])).length) (c' := c - 1) (by omega) (by omega) rfl
    (fun b' o' hA => by injection hA with hA; injection hA with h1 h2 _; subst h1; subst h2; rfl) (by omega) (by omega)
  have e1 : List.take (((UK.dia.i, (0 : Int)) :: (enc a ++ [])).length - 1) (List.drop 1 ((UK.dia.i, (0 : Int)) :: (enc a ++ []))) = enc a := by simp
  rw [e1] at hcut
  clear e1 h
  generalize ((UK.dia.i, (0 : Int)) :: (enc a ++ [])).length = L at *
  have HIH := Lib.hid ih; clear ih
  go_enter Tryz.func116, Tryz.ntmps116
  go_wp2_with (at_make; refine stopHere ?_)
  refine goHere ?_
  refine mk_full (K := cB) w ty_bool rfl _ _ rfl w.heap.size 61 false rfl rfl rfl (by omega) (Nat.le_refl _) ?_
  intro w1 ho1 hg1 hb1 hsz1
  have hd0 : w1.cell? ⟨b, o, none⟩ = some (.int .i64 6) := (hb1.cell (p := ⟨b, o, none⟩) hb).trans hc0
  have hcut1 := hcut.below hb1
  have hbl : b < w1.heap.size := by omega
  have i1 : (1 : Int) ≤ (L : Int) := by omega
  have i2 : (0 : Int) < (L : Int) := by omega
  have i3 : 0 < L := by omega
  have i4 : ¬ c = 1 := by omega
  go_wp2
  go_region_held3 (fun w' => w'.cell? ⟨b, o, none⟩ = some (.int .i64 6)) (first | exact hd0 | (simp [*]; done)) (first | (go_at_call 116; refine (HIH.out _ _ (hcut1.below (below_drewN (Below.refl _ _) 1))).mono ?_; rintro e w2 ⟨u, rfl, ho2, hb2⟩; have hd2 : w2.cell? ⟨b, o, none⟩ = some (.int .i64 6) := (hb2.cell (p := ⟨b, o, none⟩) hbl).trans hd0))
  have ho3 : Ow cB 4 w1.heap.size w2 u (row a) := ho2
  have hb3 : Below w1.heap.size w1 w2 := (below_drewN (Below.refl _ _) 1).trans hb2
  have ho1' := ho1.below hb3
  have hB2 : Below w.heap.size w w2 := bthen hb1 hb3
  obtain ⟨A2, c2, rfl⟩ := ho3.opn
  clear hd0 hd2 hcut1 hcut hc0 hc1 ho2 hb2 ho1 hg1 hb1 hb3 i1 i2 i3 i4 HIH
  rw [row_length] at ho3 ⊢
  go_wp2
  go_loopw [6, 7] (fun q i wr => ∃ j : Nat, j ≤ 61 ∧ i = .int .i64 j ∧ q = .bool ((List.range j).any (rk a 0)) ∧ Ow cB 4 w.heap.size wr (.slice (some ⟨w.heap.size, 0, none⟩) 61 61) ((List.range j).map (rk (.un .dia a) 0) ++ List.replicate (61 - j) false) ∧ Ow cB 4 w1.heap.size wr (.slice A2 61 c2) (row a) ∧ Below w.heap.size w wr) (fun _ i _ => 61 - (intOf i).toNat)
  case atStart => exact ⟨0, by omega, rfl, rfl, ho1', ho3, hB2⟩
  case round =>
    obtain ⟨j, hj, rfl, rfl, ho, hi, hb⟩ := hrel
    by_cases hlt : j < 61
    · obtain ⟨g2, rfl, hg2, hg2'⟩ := hi.head (by rw [row_length]; omega)
      obtain ⟨hx, -, -, -⟩ := hi.at1 rfl (j := j) (by rw [row_length]; exact hlt) rfl
      rw [row_get] at hx
      obtain ⟨hc1, hf1, -, hg1'⟩ := ho.at1 rfl (j := j) (by simp; omega) rfl
      obtain ⟨old, hc1⟩ : ∃ old, wr.cell? ⟨w.heap.size, j, none⟩ = some old := ⟨_, hc1⟩
      have hset := ho.set1 (j := j) (x := rk (.un .dia a) 0 j) (u := .bool ((List.range j).any (rk a 0))) rfl rfl (by simp; omega)
      rw [set_map_replicate _ _ _ _ hlt] at hset
      have hi2 := hi.setBelow (p := ⟨w.heap.size, j, none⟩) hsz1 (.bool ((List.range j).any (rk a 0)))
      have hne : ¬ g2 = w.heap.size := by omega
      have HS := Lib.hid hset
      have HI := Lib.hid hi2
      have HB := Lib.hid (hb.setCell (p := ⟨w.heap.size, j, none⟩) (Nat.le_refl _) (.bool ((List.range j).any (rk a 0))))
      have HA : Hid ((List.range (j + 1)).any (rk a 0) = ((List.range j).any (rk a 0) || rk a 0 j)) := by
        show _ = _
        rw [List.range_succ, List.any_append]; simp
      clear ho hi hb hset hi2
      generalize hq : (List.range j).any (rk a 0) = q at *
      have HQ := Lib.hid hq; clear hq
      by_cases hr : rk a 0 j = true
      · rw [hr] at hx HA
        clear hr
        go_wp2
        go_roundw
        case rel => exact ⟨j + 1, by omega, by go_num, by rw [HA.out, Bool.or_true], HS.out, HI.out, HB.out⟩
        case measure => simp [intOf]; omega
      · rw [Bool.not_eq_true] at hr
        rw [hr] at hx HA
        clear hr
        go_wp2
        go_roundw
        case rel => exact ⟨j + 1, by omega, by go_num, by rw [HA.out, Bool.or_false], HS.out, HI.out, HB.out⟩
        case measure => simp [intOf]; omega
    · obtain rfl : j = 61 := by omega
      rw [Nat.sub_self, List.replicate_zero, List.append_nil] at ho
      have HO : Hid (Ow cB 4 w.heap.size wr (.slice (some ⟨w.heap.size, 0, none⟩) 61 61) (row (.un .dia a))) := ho
      have HB := Lib.hid hb
      clear ho hb hi
      go_wp2
      go_ret
      exact ⟨_, rfl, HO.out, HB.out⟩
set_option maxRecDepth 100000 in
theorem spec_l32Row_fls (v : Value) (w : World) (h : Sl cN w v (enc .fls)) :
    Calls Tryz.prog 116 #[v] w fun e w' => ∃ u, e = .returned u ∧ Ow cB 4 w.heap.size w' u (row .fls) ∧ Below w.heap.size w w' := by
  obtain ⟨A, c, rfl⟩ := h.opn
  obtain ⟨b, o, rfl, hb, hc0, hc1⟩ := h.atN0
  simp only [enc, List.length_cons, List.length_nil]
  go_enter Tryz.func116, Tryz.ntmps116
  go_wp2_with (at_make; refine stopHere ?_)
  refine goHere ?_
  refine mk_full (K := cB) w ty_bool rfl _ _ rfl w.heap.size 61 false rfl rfl rfl (by omega) (Nat.le_refl _) ?_
  intro w1 ho1 hg1 hb1 hsz1
  have hd0 : w1.cell? ⟨b, o, none⟩ = some (.int .i64 1) := (hb1.cell (p := ⟨b, o, none⟩) hb).trans hc0
  have HO : Hid (Ow cB 4 w.heap.size w1 (.slice (some ⟨w.heap.size, 0, none⟩) 61 61) (row .fls)) := ho1
  have HB := Lib.hid hb1
  clear ho1 hb1 h hc0 hc1
  go_wp2
  go_ret
  exact ⟨_, rfl, HO.out, HB.out⟩
/- Contracts of chapter 32: the row of a formula with two parts, of the reference. -/
set_option maxRecDepth 100000 in
theorem spec_l32Row_and (a b : Fm) (iha : ∀ (v : Value) (w : World), Sl cN w v (enc a) → Calls Tryz.prog 116 #[v] w fun e w' => ∃ u, e = .returned u ∧ Ow cB 4 w.heap.size w' u (row a) ∧ Below w.heap.size w w')
    (ihb : ∀ (v : Value) (w : World), Sl cN w v (enc b) → Calls Tryz.prog 116 #[v] w fun e w' => ∃ u, e = .returned u ∧ Ow cB 4 w.heap.size w' u (row b) ∧ Below w.heap.size w w')
    (v : Value) (w : World) (h : Sl cN w v (enc (.bin .and a b))) (hl : (enc (.bin .and a b)).length ≤ 1048576) :
    Calls Tryz.prog 116 #[v] w fun e w' => ∃ u, e = .returned u ∧ Ow cB 4 w.heap.size w' u (row (.bin .and a b)) ∧ Below w.heap.size w w' := by
  rw [enc_bin] at h hl
  have hleft := fun W (hW : Sl cN W v ((BK.and.i, (0 : Int)) :: (enc a ++ (enc b ++ [])))) => spec_l02Left v _ a _ W hW hl
  have hright := fun W (hW : Sl cN W v ((BK.and.i, (0 : Int)) :: (enc a ++ (enc b ++ [])))) => spec_l02Right v _ a b W (by simpa using hW) (by simpa using hl)
  have HL := Lib.hid hleft; clear hleft
  have HR := Lib.hid hright; clear hright
  obtain ⟨A, c, rfl⟩ := h.opn
  obtain ⟨bb, o, rfl, hb, hc0, hc1⟩ := h.atN0
  simp only [BK.i] at hc0
  have hL0 : 0 < ((BK.and.i, (0 : Int)) :: (enc a ++ (enc b ++ []))).length := by simp
  generalize hxs : ((BK.and.i, (0 : Int)) :: (enc a ++ (enc b ++ []))) = xs at *
  clear hxs
  generalize xs.length = L at *
  have HIA := Lib.hid iha; clear iha
  have HIB := Lib.hid ihb; clear ihb
  have Hh := Lib.hid h; clear h
  go_enter Tryz.func116, Tryz.ntmps116
  go_wp2_with (at_make; refine stopHere ?_)
  refine goHere ?_
  refine mk_full (K := cB) w ty_bool rfl _ _ rfl w.heap.size 61 false rfl rfl rfl (by omega) (Nat.le_refl _) ?_
  intro w1 ho1 hg1 hb1 hsz1
  have hd0 : w1.cell? ⟨bb, o, none⟩ = some (.int .i64 2) := (hb1.cell (p := ⟨bb, o, none⟩) hb).trans hc0
  go_wp2_with fail
  refine (HL.out _ (Hh.out.below hb1)).mono ?_
  rintro e w2 ⟨u1, rfl, hs1, rfl⟩
  go_wp2_with fail
  refine (HIA.out _ _ hs1).mono ?_
  rintro e w2 ⟨x, rfl, hx, hb2⟩
  have hB2 : Below w.heap.size w w2 := bthen hb1 hb2
  go_wp2_with fail
  refine (HR.out _ (Hh.out.below hB2)).mono ?_
  rintro e w3 ⟨u2, rfl, hs2, rfl⟩
  go_wp2_with fail
  refine (HIB.out _ _ hs2).mono ?_
  rintro e w3 ⟨y, rfl, hy, hb3⟩
  have hB3 : Below w.heap.size w w3 := bthen hB2 hb3
  have ho3 := (ho1.below hb2).below hb3
  have hx3 := hx.below hb3
  have hy3 := hy.mono hb2.size
  have hd3 : w3.cell? ⟨bb, o, none⟩ = some (.int .i64 2) := (hB3.cell (p := ⟨bb, o, none⟩) hb).trans hc0
  obtain ⟨Ax, cx, rfl⟩ := hx.opn
  obtain ⟨Ay, cy, rfl⟩ := hy.opn
  have hsz3 := hb3.size
  have hsz2 := hb2.size
  clear hx hy ho1 hb1 hb2 hb3 hB2 hs1 hs2 hd0 hg1 HL HR HIA HIB Hh hc0 hc1
  rw [row_length] at hx3 hy3 ⊢
  rw [row_length]
  go_wp2
  go_loopw [10] (fun i wr => ∃ j : Nat, j ≤ 61 ∧ i = .int .i64 j ∧ Ow cB 4 w.heap.size wr (.slice (some ⟨w.heap.size, 0, none⟩) 61 61) ((List.range j).map (rk (.bin .and a b) 0) ++ List.replicate (61 - j) false) ∧ Ow cB 4 w1.heap.size wr (.slice Ax 61 cx) (row a) ∧ Ow cB 4 w1.heap.size wr (.slice Ay 61 cy) (row b) ∧ wr.cell? ⟨bb, o, none⟩ = some (.int .i64 2) ∧ Below w.heap.size w wr) (fun i _ => 61 - (intOf i).toNat)
  case atStart => exact ⟨0, by omega, rfl, ho3, hx3, hy3, hd3, hB3⟩
  case round =>
    obtain ⟨j, hj, rfl, ho, hx, hy, hd, hb⟩ := hrel
    clear ho3 hx3 hy3 hd3 hB3
    by_cases hlt : j < 61
    · obtain ⟨gx, rfl, hgx, -⟩ := hx.head (by rw [row_length]; omega)
      obtain ⟨gy, rfl, hgy, -⟩ := hy.head (by rw [row_length]; omega)
      obtain ⟨hcx, -, -, -⟩ := hx.at1 rfl (j := j) (by rw [row_length]; exact hlt) rfl
      obtain ⟨hcy, -, -, -⟩ := hy.at1 rfl (j := j) (by rw [row_length]; exact hlt) rfl
      rw [row_get] at hcx hcy
      obtain ⟨hc1, hf1, -, hg1'⟩ := ho.at1 rfl (j := j) (by simp; omega) rfl
      obtain ⟨old, hc1⟩ : ∃ old, wr.cell? ⟨w.heap.size, j, none⟩ = some old := ⟨_, hc1⟩
      have hset := ho.set1 (j := j) (x := rk (.bin .and a b) 0 j) (u := .bool (rk (.bin .and a b) 0 j)) rfl rfl (by simp; omega)
      rw [set_map_replicate _ _ _ _ hlt] at hset
      have hne : ¬ w.heap.size = bb := by omega
      have HS := Lib.hid hset
      have HX := Lib.hid (hx.setBelow (p := ⟨w.heap.size, j, none⟩) hsz1 (.bool (rk (.bin .and a b) 0 j)))
      have HY := Lib.hid (hy.setBelow (p := ⟨w.heap.size, j, none⟩) hsz1 (.bool (rk (.bin .and a b) 0 j)))
      have HB := Lib.hid (hb.setCell (p := ⟨w.heap.size, j, none⟩) (Nat.le_refl _) (.bool (rk (.bin .and a b) 0 j)))
      have HD : Hid ((wr.setCell ⟨w.heap.size, j, none⟩ (.bool (rk (.bin .and a b) 0 j))).cell? ⟨bb, o, none⟩ = some (.int .i64 2)) := by
        show _ = _
        rw [World.cell?_setCell_other _ _ _ _ (by intro e; injection e with e _; exact hne e)]
        exact hd
      have HV : Hid (rk (.bin .and a b) 0 j = (rk a 0 j && rk b 0 j)) := Lib.hid rfl
      clear ho hx hy hb hset
      generalize rk (.bin .and a b) 0 j = q at *
      by_cases hr : rk a 0 j = true
      · rw [hr] at hcx HV
        clear hr
        by_cases hr2 : rk b 0 j = true
        · rw [hr2] at hcy HV
          clear hr2
          obtain rfl := HV.out
          go_wp2
          go_roundw
          case rel => exact ⟨j + 1, by omega, by go_num, HS.out, HX.out, HY.out, HD.out, HB.out⟩
          case measure => simp [intOf]; omega
        · rw [Bool.not_eq_true] at hr2
          rw [hr2] at hcy HV
          clear hr2
          obtain rfl := HV.out
          go_wp2
          go_roundw
          case rel => exact ⟨j + 1, by omega, by go_num, HS.out, HX.out, HY.out, HD.out, HB.out⟩
          case measure => simp [intOf]; omega
      · rw [Bool.not_eq_true] at hr
        rw [hr] at hcx HV
        clear hr
        by_cases hr2 : rk b 0 j = true
        · rw [hr2] at hcy HV
          clear hr2
          obtain rfl := HV.out
          go_wp2
          go_roundw
          case rel => exact ⟨j + 1, by omega, by go_num, HS.out, HX.out, HY.out, HD.out, HB.out⟩
          case measure => simp [intOf]; omega
        · rw [Bool.not_eq_true] at hr2
          rw [hr2] at hcy HV
          clear hr2
          obtain rfl := HV.out
          go_wp2
          go_roundw
          case rel => exact ⟨j + 1, by omega, by go_num, HS.out, HX.out, HY.out, HD.out, HB.out⟩
          case measure => simp [intOf]; omega
    · obtain rfl : j = 61 := by omega
      rw [Nat.sub_self, List.replicate_zero, List.append_nil] at ho
      have HO : Hid (Ow cB 4 w.heap.size wr (.slice (some ⟨w.heap.size, 0, none⟩) 61 61) (row (.bin .and a b))) := ho
      have HB := Lib.hid hb
      clear ho hb hx hy hd
      go_wp2
      go_ret
      exact ⟨_, rfl, HO.out, HB.out⟩
set_option maxRecDepth 100000 in
theorem spec_l32Row_or (a b : Fm) (iha : ∀ (v : Value) (w : World), Sl cN w v (enc a) → Calls Tryz.prog 116 #[v] w fun e w' => ∃ u, e = .returned u ∧ Ow cB 4 w.heap.size w' u (row a) ∧ Below w.heap.size w w')
    (ihb : ∀ (v : Value) (w : World), Sl cN w v (enc b) → Calls Tryz.prog 116 #[v] w fun e w' => ∃ u, e = .returned u ∧ Ow cB 4 w.heap.size w' u (row b) ∧ Below w.heap.size w w')
    (v : Value) (w : World) (h : Sl cN w v (enc (.bin .or a b))) (hl : (enc (.bin .or a b)).length ≤ 1048576) :
    Calls Tryz.prog 116 #[v] w fun e w' => ∃ u, e = .returned u ∧ Ow cB 4 w.heap.size w' u (row (.bin .or a b)) ∧ Below w.heap.size w w' := by
  rw [enc_bin] at h hl
  have hleft := fun W (hW : Sl cN W v ((BK.or.i, (0 : Int)) :: (enc a ++ (enc b ++ [])))) => spec_l02Left v _ a _ W hW hl
  have hright := fun W (hW : Sl cN W v ((BK.or.i, (0 : Int)) :: (enc a ++ (enc b ++ [])))) => spec_l02Right v _ a b W (by simpa using hW) (by simpa using hl)
  have HL := Lib.hid hleft; clear hleft
  have HR := Lib.hid hright; clear hright
  obtain ⟨A, c, rfl⟩ := h.opn
  obtain ⟨bb, o, rfl, hb, hc0, hc1⟩ := h.atN0
  simp only [BK.i] at hc0
  have hL0 : 0 < ((BK.or.i, (0 : Int)) :: (enc a ++ (enc b ++ []))).length := by simp
  generalize hxs : ((BK.or.i, (0 : Int)) :: (enc a ++ (enc b ++ []))) = xs at *
  clear hxs
  generalize xs.length = L at *
  have HIA := Lib.hid iha; clear iha
  have HIB := Lib.hid ihb; clear ihb
  have Hh := Lib.hid h; clear h
  go_enter Tryz.func116, Tryz.ntmps116
  go_wp2_with (at_make; refine stopHere ?_)
  refine goHere ?_
  refine mk_full (K := cB) w ty_bool rfl _ _ rfl w.heap.size 61 false rfl rfl rfl (by omega) (Nat.le_refl _) ?_
  intro w1 ho1 hg1 hb1 hsz1
  have hd0 : w1.cell? ⟨bb, o, none⟩ = some (.int .i64 3) := (hb1.cell (p := ⟨bb, o, none⟩) hb).trans hc0
  go_wp2_with fail
  refine (HL.out _ (Hh.out.below hb1)).mono ?_
  rintro e w2 ⟨u1, rfl, hs1, rfl⟩
  go_wp2_with fail
  refine (HIA.out _ _ hs1).mono ?_
  rintro e w2 ⟨x, rfl, hx, hb2⟩
  have hB2 : Below w.heap.size w w2 := bthen hb1 hb2
  go_wp2_with fail
  refine (HR.out _ (Hh.out.below hB2)).mono ?_
  rintro e w3 ⟨u2, rfl, hs2, rfl⟩
  go_wp2_with fail
  refine (HIB.out _ _ hs2).mono ?_
  rintro e w3 ⟨y, rfl, hy, hb3⟩
  have hB3 : Below w.heap.size w w3 := bthen hB2 hb3
  have ho3 := (ho1.below hb2).below hb3
  have hx3 := hx.below hb3
  have hy3 := hy.mono hb2.size
  have hd3 : w3.cell? ⟨bb, o, none⟩ = some (.int .i64 3) := (hB3.cell (p := ⟨bb, o, none⟩) hb).trans hc0
  obtain ⟨Ax, cx, rfl⟩ := hx.opn
  obtain ⟨Ay, cy, rfl⟩ := hy.opn
  have hsz3 := hb3.size
  have hsz2 := hb2.size
  clear hx hy ho1 hb1 hb2 hb3 hB2 hs1 hs2 hd0 hg1 HL HR HIA HIB Hh hc0 hc1
  rw [row_length] at hx3 hy3 ⊢
  rw [row_length]
  go_wp2
  go_loopw [10] (fun i wr => ∃ j : Nat, j ≤ 61 ∧ i = .int .i64 j ∧ Ow cB 4 w.heap.size wr (.slice (some ⟨w.heap.size, 0, none⟩) 61 61) ((List.range j).map (rk (.bin .or a b) 0) ++ List.replicate (61 - j) false) ∧ Ow cB 4 w1.heap.size wr (.slice Ax 61 cx) (row a) ∧ Ow cB 4 w1.heap.size wr (.slice Ay 61 cy) (row b) ∧ wr.cell? ⟨bb, o, none⟩ = some (.int .i64 3) ∧ Below w.heap.size w wr) (fun i _ => 61 - (intOf i).toNat)
  case atStart => exact ⟨0, by omega, rfl, ho3, hx3, hy3, hd3, hB3⟩
  case round =>
    obtain ⟨j, hj, rfl, ho, hx, hy, hd, hb⟩ := hrel
    clear ho3 hx3 hy3 hd3 hB3
    by_cases hlt : j < 61
    · obtain ⟨gx, rfl, hgx, -⟩ := hx.head (by rw [row_length]; omega)
      obtain ⟨gy, rfl, hgy, -⟩ := hy.head (by rw [row_length]; omega)
      obtain ⟨hcx, -, -, -⟩ := hx.at1 rfl (j := j) (by rw [row_length]; exact hlt) rfl
      obtain ⟨hcy, -, -, -⟩ := hy.at1 rfl (j := j) (by rw [row_length]; exact hlt) rfl
      rw [row_get] at hcx hcy
      obtain ⟨hc1, hf1, -, hg1'⟩ := ho.at1 rfl (j := j) (by simp; omega) rfl
      obtain ⟨old, hc1⟩ : ∃ old, wr.cell? ⟨w.heap.size, j, none⟩ = some old := ⟨_, hc1⟩
      have hset := ho.set1 (j := j) (x := rk (.bin .or a b) 0 j) (u := .bool (rk (.bin .or a b) 0 j)) rfl rfl (by simp; omega)
      rw [set_map_replicate _ _ _ _ hlt] at hset
      have hne : ¬ w.heap.size = bb := by omega
      have HS := Lib.hid hset
      have HX := Lib.hid (hx.setBelow (p := ⟨w.heap.size, j, none⟩) hsz1 (.bool (rk (.bin .or a b) 0 j)))
      have HY := Lib.hid (hy.setBelow (p := ⟨w.heap.size, j, none⟩) hsz1 (.bool (rk (.bin .or a b) 0 j)))
      have HB := Lib.hid (hb.setCell (p := ⟨w.heap.size, j, none⟩) (Nat.le_refl _) (.bool (rk (.bin .or a b) 0 j)))
      have HD : Hid ((wr.setCell ⟨w.heap.size, j, none⟩ (.bool (rk (.bin .or a b) 0 j))).cell? ⟨bb, o, none⟩ = some (.int .i64 3)) := by
        show _ = _
        rw [World.cell?_setCell_other _ _ _ _ (by intro e; injection e with e _; exact hne e)]
        exact hd
      have HV : Hid (rk (.bin .or a b) 0 j = (rk a 0 j || rk b 0 j)) := Lib.hid rfl
      clear ho hx hy hb hset
      generalize rk (.bin .or a b) 0 j = q at *
      by_cases hr : rk a 0 j = true
      · rw [hr] at hcx HV
        clear hr
        by_cases hr2 : rk b 0 j = true
        · rw [hr2] at hcy HV
          clear hr2
          obtain rfl := HV.out
          go_wp2
          go_roundw
          case rel => exact ⟨j + 1, by omega, by go_num, HS.out, HX.out, HY.out, HD.out, HB.out⟩
          case measure => simp [intOf]; omega
        · rw [Bool.not_eq_true] at hr2
          rw [hr2] at hcy HV
          clear hr2
          obtain rfl := HV.out
          go_wp2
          go_roundw
          case rel => exact ⟨j + 1, by omega, by go_num, HS.out, HX.out, HY.out, HD.out, HB.out⟩
          case measure => simp [intOf]; omega
      · rw [Bool.not_eq_true] at hr
        rw [hr] at hcx HV
        clear hr
        by_cases hr2 : rk b 0 j = true
        · rw [hr2] at hcy HV
          clear hr2
          obtain rfl := HV.out
          go_wp2
          go_roundw
          case rel => exact ⟨j + 1, by omega, by go_num, HS.out, HX.out, HY.out, HD.out, HB.out⟩
          case measure => simp [intOf]; omega
        · rw [Bool.not_eq_true] at hr2
          rw [hr2] at hcy HV
          clear hr2
          obtain rfl := HV.out
          go_wp2
          go_roundw
          case rel => exact ⟨j + 1, by omega, by go_num, HS.out, HX.out, HY.out, HD.out, HB.out⟩
          case measure => simp [intOf]; omega
    · obtain rfl : j = 61 := by omega
      rw [Nat.sub_self, List.replicate_zero, List.append_nil] at ho
      have HO : Hid (Ow cB 4 w.heap.size wr (.slice (some ⟨w.heap.size, 0, none⟩) 61 61) (row (.bin .or a b))) := ho
      have HB := Lib.hid hb
      clear ho hb hx hy hd
      go_wp2
      go_ret
      exact ⟨_, rfl, HO.out, HB.out⟩
set_option maxRecDepth 100000 in
theorem spec_l32Row_imp (a b : Fm) (iha : ∀ (v : Value) (w : World), Sl cN w v (enc a) → Calls Tryz.prog 116 #[v] w fun e w' => ∃ u, e = .returned u ∧ Ow cB 4 w.heap.size w' u (row a) ∧ Below w.heap.size w w')
    (ihb : ∀ (v : Value) (w : World), Sl cN w v (enc b) → Calls Tryz.prog 116 #[v] w fun e w' => ∃ u, e = .returned u ∧ Ow cB 4 w.heap.size w' u (row b) ∧ Below w.heap.size w w')
    (v : Value) (w : World) (h : Sl cN w v (enc (.bin .imp a b))) (hl : (enc (.bin .imp a b)).length ≤ 1048576) :
    Calls Tryz.prog 116 #[v] w fun e w' => ∃ u, e = .returned u ∧ Ow cB 4 w.heap.size w' u (row (.bin .imp a b)) ∧ Below w.heap.size w w' := by
  rw [enc_bin] at h hl
  have hleft := fun W (hW : Sl cN W v ((BK.imp.i, (0 : Int)) :: (enc a ++ (enc b ++ [])))) => spec_l02Left v _ a _ W hW hl
  have hright := fun W (hW : Sl cN W v ((BK.imp.i, (0 : Int)) :: (enc a ++ (enc b ++ [])))) => spec_l02Right v _ a b W (by simpa using hW) (by simpa using hl)
  have HL := Lib.hid hleft; clear hleft
  have HR := Lib.hid hright; clear hright
  obtain ⟨A, c, rfl⟩ := h.opn
  obtain ⟨bb, o, rfl, hb, hc0, hc1⟩ := h.atN0
  simp only [BK.i] at hc0
  have hL0 : 0 < ((BK.imp.i, (0 : Int)) :: (enc a ++ (enc b ++ []))).length := by simp
  generalize hxs : ((BK.imp.i, (0 : Int)) :: (enc a ++ (enc b ++ []))) = xs at *
  clear hxs
  generalize xs.length = L at *
  have HIA := Lib.hid iha; clear iha
  have HIB := Lib.hid ihb; clear ihb
  have Hh := Lib.hid h; clear h
  go_enter Tryz.func116, Tryz.ntmps116
  go_wp2_with (at_make; refine stopHere ?_)
  refine goHere ?_
  refine mk_full (K := cB) w ty_bool rfl _ _ rfl w.heap.size 61 false rfl rfl rfl (by omega) (Nat.le_refl _) ?_
  intro w1 ho1 hg1 hb1 hsz1
  have hd0 : w1.cell? ⟨bb, o, none⟩ = some (.int .i64 4) := (hb1.cell (p := ⟨bb, o, none⟩) hb).trans hc0
  go_wp2_with fail
  refine (HL.out _ (Hh.out.below hb1)).mono ?_
  rintro e w2 ⟨u1, rfl, hs1, rfl⟩
  go_wp2_with fail
  refine (HIA.out _ _ hs1).mono ?_
  rintro e w2 ⟨x, rfl, hx, hb2⟩
  have hB2 : Below w.heap.size w w2 := bthen hb1 hb2
  go_wp2_with fail
  refine (HR.out _ (Hh.out.below hB2)).mono ?_
  rintro e w3 ⟨u2, rfl, hs2, rfl⟩
  go_wp2_with fail
  refine (HIB.out _ _ hs2).mono ?_
  rintro e w3 ⟨y, rfl, hy, hb3⟩
  have hB3 : Below w.heap.size w w3 := bthen hB2 hb3
  have ho3 := (ho1.below hb2).below hb3
  have hx3 := hx.below hb3
  have hy3 := hy.mono hb2.size
  have hd3 : w3.cell? ⟨bb, o, none⟩ = some (.int .i64 4) := (hB3.cell (p := ⟨bb, o, none⟩) hb).trans hc0
  obtain ⟨Ax, cx, rfl⟩ := hx.opn
  obtain ⟨Ay, cy, rfl⟩ := hy.opn
  have hsz3 := hb3.size
  have hsz2 := hb2.size
  clear hx hy ho1 hb1 hb2 hb3 hB2 hs1 hs2 hd0 hg1 HL HR HIA HIB Hh hc0 hc1
  rw [row_length] at hx3 hy3 ⊢
  rw [row_length]
  go_wp2
  go_loopw [10] (fun i wr => ∃ j : Nat, j ≤ 61 ∧ i = .int .i64 j ∧ Ow cB 4 w.heap.size wr (.slice (some ⟨w.heap.size, 0, none⟩) 61 61) ((List.range j).map (rk (.bin .imp a b) 0) ++ List.replicate (61 - j) false) ∧ Ow cB 4 w1.heap.size wr (.slice Ax 61 cx) (row a) ∧ Ow cB 4 w1.heap.size wr (.slice Ay 61 cy) (row b) ∧ wr.cell? ⟨bb, o, none⟩ = some (.int .i64 4) ∧ Below w.heap.size w wr) (fun i _ => 61 - (intOf i).toNat)
  case atStart => exact ⟨0, by omega, rfl, ho3, hx3, hy3, hd3, hB3⟩
  case round =>
    obtain ⟨j, hj, rfl, ho, hx, hy, hd, hb⟩ := hrel
    clear ho3 hx3 hy3 hd3 hB3
    by_cases hlt : j < 61
    · obtain ⟨gx, rfl, hgx, -⟩ := hx.head (by rw [row_length]; omega)
      obtain ⟨gy, rfl, hgy, -⟩ := hy.head (by rw [row_length]; omega)
      obtain ⟨hcx, -, -, -⟩ := hx.at1 rfl (j := j) (by rw [row_length]; exact hlt) rfl
      obtain ⟨hcy, -, -, -⟩ := hy.at1 rfl (j := j) (by rw [row_length]; exact hlt) rfl
      rw [row_get] at hcx hcy
      obtain ⟨hc1, hf1, -, hg1'⟩ := ho.at1 rfl (j := j) (by simp; omega) rfl
      obtain ⟨old, hc1⟩ : ∃ old, wr.cell? ⟨w.heap.size, j, none⟩ = some old := ⟨_, hc1⟩
      have hset := ho.set1 (j := j) (x := rk (.bin .imp a b) 0 j) (u := .bool (rk (.bin .imp a b) 0 j)) rfl rfl (by simp; omega)
      rw [set_map_replicate _ _ _ _ hlt] at hset
      have hne : ¬ w.heap.size = bb := by omega
      have HS := Lib.hid hset
      have HX := Lib.hid (hx.setBelow (p := ⟨w.heap.size, j, none⟩) hsz1 (.bool (rk (.bin .imp a b) 0 j)))
      have HY := Lib.hid (hy.setBelow (p := ⟨w.heap.size, j, none⟩) hsz1 (.bool (rk (.bin .imp a b) 0 j)))
      have HB := Lib.hid (hb.setCell (p := ⟨w.heap.size, j, none⟩) (Nat.le_refl _) (.bool (rk (.bin .imp a b) 0 j)))
      have HD : Hid ((wr.setCell ⟨w.heap.size, j, none⟩ (.bool (rk (.bin .imp a b) 0 j))).cell? ⟨bb, o, none⟩ = some (.int .i64 4)) := by
        show _ = _
        rw [World.cell?_setCell_other _ _ _ _ (by intro e; injection e with e _; exact hne e)]
        exact hd
      have HV : Hid (rk (.bin .imp a b) 0 j = (!rk a 0 j || rk b 0 j)) := Lib.hid rfl
      clear ho hx hy hb hset
      generalize rk (.bin .imp a b) 0 j = q at *
      by_cases hr : rk a 0 j = true
      · rw [hr] at hcx HV
        clear hr
        by_cases hr2 : rk b 0 j = true
        · rw [hr2] at hcy HV
          clear hr2
          obtain rfl := HV.out
          go_wp2
          go_roundw
          case rel => exact ⟨j + 1, by omega, by go_num, HS.out, HX.out, HY.out, HD.out, HB.out⟩
          case measure => simp [intOf]; omega
        · rw [Bool.not_eq_true] at hr2
          rw [hr2] at hcy HV
          clear hr2
          obtain rfl := HV.out
          go_wp2
          go_roundw
          case rel => exact ⟨j + 1, by omega, by go_num, HS.out, HX.out, HY.out, HD.out, HB.out⟩
          case measure => simp [intOf]; omega
      · rw [Bool.not_eq_true] at hr
        rw [hr] at hcx HV
        clear hr
        by_cases hr2 : rk b 0 j = true
        · rw [hr2] at hcy HV
          clear hr2
          obtain rfl := HV.out
          go_wp2
          go_roundw
          case rel => exact ⟨j + 1, by omega, by go_num, HS.out, HX.out, HY.out, HD.out, HB.out⟩
          case measure => simp [intOf]; omega
        · rw [Bool.not_eq_true] at hr2
          rw [hr2] at hcy HV
          clear hr2
          obtain rfl := HV.out
          go_wp2
          go_roundw
          case rel => exact ⟨j + 1, by omega, by go_num, HS.out, HX.out, HY.out, HD.out, HB.out⟩
          case measure => simp [intOf]; omega
    · obtain rfl : j = 61 := by omega
      rw [Nat.sub_self, List.replicate_zero, List.append_nil] at ho
      have HO : Hid (Ow cB 4 w.heap.size wr (.slice (some ⟨w.heap.size, 0, none⟩) 61 61) (row (.bin .imp a b))) := ho
      have HB := Lib.hid hb
      clear ho hb hx hy hd
      go_wp2
      go_ret
      exact ⟨_, rfl, HO.out, HB.out⟩
theorem spec_l32Row (f : Fm) : ∀ (hv : f.novar = true) (hl : (enc f).length ≤ 1048576) (v : Value) (w : World), Sl cN w v (enc f) →
    Calls Tryz.prog 116 #[v] w fun e w' => ∃ u, e = .returned u ∧ Ow cB 4 w.heap.size w' u (row f) ∧ Below w.heap.size w w' := by
  induction f with
  | var s => intro hv; simp [Fm.novar] at hv
  | fls => intro hv hl v w h; exact spec_l32Row_fls v w h
  | un k a ih =>
    intro hv hl v w h
    have hl2 : (enc a).length ≤ 1048576 := by simp [enc] at hl; omega
    cases k with
    | box => exact spec_l32Row_box a (ih hv hl2) v w h hl
    | dia => exact spec_l32Row_dia a (ih hv hl2) v w h hl
  | bin k a b iha ihb =>
    intro hv hl v w h
    simp only [Fm.novar, Bool.and_eq_true] at hv
    have hl2 : (enc a).length ≤ 1048576 := by simp [enc] at hl; omega
    have hl3 : (enc b).length ≤ 1048576 := by simp [enc] at hl; omega
    cases k with
    | and => exact spec_l32Row_and a b (iha hv.1 hl2) (ihb hv.2 hl3) v w h hl
    | or => exact spec_l32Row_or a b (iha hv.1 hl2) (ihb hv.2 hl3) v w h hl
    | imp => exact spec_l32Row_imp a b (iha hv.1 hl2) (ihb hv.2 hl3) v w h hl
/- Contracts of chapter 32: the code of letterless formulas. -/
/-- a slice of slices reads as a list of lists -/
def Sl2 {α : Type} (K : Cod α) (w : World) (v : Value) (xss : List (List α)) : Prop :=
  ∃ hs : List Hd, Sl cH w v hs ∧ hs.length = xss.length ∧ ∀ (i : Nat) (h : i < hs.length) (h' : i < xss.length), Sl K w hs[i].val xss[i]
section
variable {α : Type} {K : Cod α} {w w' : World} {v : Value} {xss : List (List α)}
theorem Sl2.below (h : Sl2 K w v xss) (hb : Below w.heap.size w w') : Sl2 K w' v xss := by
  obtain ⟨hs, h1, h2, h3⟩ := h
  exact ⟨hs, h1.below hb, h2, fun i a b => (h3 i a b).below hb⟩
theorem Sl2.opn (h : Sl2 K w v xss) : ∃ A c, v = .slice A xss.length c := by
  obtain ⟨hs, h1, h2, h3⟩ := h
  rw [← h2]
  exact h1.opn
theorem Sl2.at_ {A : Option Addr} {n c : Nat} (h : Sl2 K w (.slice A n c) xss) {k : Nat} (hk : k < xss.length) :
    ∃ b o Ai ni ci, A = some ⟨b, o, none⟩ ∧ b < w.heap.size ∧ w.cell? ⟨b, o + k, none⟩ = some (.slice Ai ni ci) ∧ Sl K w (.slice Ai ni ci) xss[k] := by
  obtain ⟨hs, h1, h2, h3⟩ := h
  have hk' : k < hs.length := by omega
  obtain ⟨b, o, hA, hb, hc⟩ := h1.cell hk'
  have := hc 0 hs[k].val rfl
  exact ⟨b, o, hs[k].a, hs[k].n, hs[k].c, hA, hb, by simpa [cH, Hd.val] using this, h3 k hk' hk⟩
/-- one slice, laid as a slice of slices -/
theorem Sl2.one {A : Option Addr} {n c : Nat} {xs : List α} (h : Sl K w (.slice A n c) xs) (e : TypeId) : Sl2 K (w.alloc (.cells #[.slice A n c] e)) (.slice (some ⟨w.heap.size, 0, none⟩) 1 1) [xs] := by
  refine ⟨[⟨A, n, c⟩], (Ow.lit (K := cH) (e := e) (B := w.heap.size) [⟨A, n, c⟩] rfl rfl (Nat.le_refl _)).sl, rfl, fun i a b => ?_⟩
  have : i = 0 := by simp at a; omega
  subst this
  exact h.alloc _
theorem Sl2.two {A B : Option Addr} {n c m d : Nat} {xs ys : List α} (h : Sl K w (.slice A n c) xs) (h' : Sl K w (.slice B m d) ys) (e : TypeId) :
    Sl2 K (w.alloc (.cells #[.slice A n c, .slice B m d] e)) (.slice (some ⟨w.heap.size, 0, none⟩) 2 2) [xs, ys] := by
  refine ⟨[⟨A, n, c⟩, ⟨B, m, d⟩], (Ow.lit (K := cH) (e := e) (B := w.heap.size) [⟨A, n, c⟩, ⟨B, m, d⟩] rfl rfl (Nat.le_refl _)).sl, rfl, fun i a b => ?_⟩
  rcases (show i = 0 ∨ i = 1 by simp at a; omega) with rfl | rfl
  · exact h.alloc _
  · exact h'.alloc _
end
/-- the mask of the variables of some formulas -/
def vmasks (xss : List (List Nd)) : Nat := xss.foldl (fun m xs => m ||| vmask xs) 0
theorem vmasks_snoc (xss : List (List Nd)) (xs : List Nd) : vmasks (xss ++ [xs]) = vmasks xss ||| vmask xs := by simp [vmasks]
theorem vmasks_lt (xss : List (List Nd)) (h : ∀ xs ∈ xss, isF xs = true) : vmasks xss < 64 := by
  have key : ∀ (xss : List (List Nd)) (m : Nat), (∀ xs ∈ xss, isF xs = true) → m < 2 ^ 6 → xss.foldl (fun m xs => m ||| vmask xs) m < 2 ^ 6 := by
    intro xss
    induction xss with
    | nil => intro m _ hm; simpa using hm
    | cons x t ih =>
      intro m h hm
      rw [List.foldl_cons]
      exact ih _ (fun y hy => h y (List.mem_cons_of_mem _ hy)) (Nat.or_lt_two_pow hm (vmask_lt x (isF_nodes (h x List.mem_cons_self))))
  unfold vmasks
  simpa using key xss 0 h (by decide)
theorem or_eq_zero (a b : Nat) : a ||| b = 0 ↔ a = 0 ∧ b = 0 := by
  constructor
  · intro h
    have key : ∀ i, (a.testBit i || b.testBit i) = false := fun i => by
      have := congrArg (fun n => n.testBit i) h
      simpa [Nat.testBit_or] using this
    constructor
    · apply Nat.eq_of_testBit_eq; intro i; have := key i; simp at this; simpa using this.1
    · apply Nat.eq_of_testBit_eq; intro i; have := key i; simp at this; simpa using this.2
  · rintro ⟨rfl, rfl⟩; rfl
theorem vmasks_zero (xss : List (List Nd)) : vmasks xss = 0 ↔ xss.all letterless = true := by
  have key : ∀ (xss : List (List Nd)) (m : Nat), xss.foldl (fun m xs => m ||| vmask xs) m = 0 ↔ m = 0 ∧ xss.all letterless = true := by
    intro xss
    induction xss with
    | nil => intro m; simp
    | cons x t ih =>
      intro m
      rw [List.foldl_cons, ih, or_eq_zero, List.all_cons, Bool.and_eq_true]
      simp only [letterless, decide_eq_true_eq]
      constructor
      · rintro ⟨⟨a, b⟩, c⟩; exact ⟨a, b, c⟩
      · rintro ⟨a, b, c⟩; exact ⟨⟨a, b⟩, c⟩
  unfold vmasks
  rw [key]
  simp
/-- the code of formulas that have to be letterless -/
def lcode (xss : List (List Nd)) : Int := if xss.all isF then (if xss.all letterless then 0 else 5) else 1
theorem slices_IndexFunc_nodes (v : Value) (xss : List (List Nd)) (k : FuncId) (cap : Array Value) (p : List Nd → Bool) (w : World) (h : Sl2 cN w v xss) (hl : xss.length ≤ 1073741824)
    (hk : ∀ (args : Array Value) (w : World), (callFunc k args).run Tryz.prog w = .ok (.enter k args) w)
    (hf : ∀ w', Below w.heap.size w w' → ∀ (u : Value) (xs : List Nd), xs ∈ xss → Sl cN w' u xs → Calls Tryz.prog k (#[u] ++ cap) w' fun e w'' => e = .returned (.bool (p xs)) ∧ Below w'.heap.size w' w'') :
    Calls Tryz.prog 172 #[v, .func (.func k) #[] cap] w fun e w' => ∃ r : Int, e = .returned (.int .i64 r) ∧ (decide (0 ≤ r) = xss.any p) ∧ Below w.heap.size w w' := by
  obtain ⟨A, c, rfl⟩ := h.opn
  have HF := Lib.hid hf; clear hf
  go_enter Tryz.func172, Tryz.ntmps172
  go_wp2
  go_loopw [8] (fun i wr => ∃ j : Nat, j ≤ xss.length ∧ i = .int .i64 j ∧ (xss.take j).any p = false ∧ Below w.heap.size w wr) (fun i _ => xss.length - (intOf i).toNat)
  case atStart => exact ⟨0, Nat.zero_le _, rfl, rfl, Below.refl _ _⟩
  case round =>
    obtain ⟨j, hj, rfl, hh, hb⟩ := hrel
    have Hh := Lib.hid hh; clear hh
    by_cases hlt : j < xss.length
    · obtain ⟨b, o, Ai, ni, ci, rfl, hbl, hc0, hs⟩ := (h.below hb).at_ hlt
      have HS := Lib.hid hs; clear hs
      go_wp2_with fail
      refine (HF.out wr hb _ _ (List.getElem_mem hlt) HS.out).mono ?_
      rintro e w1 ⟨rfl, hb1⟩
      have HB : Hid (Below w.heap.size w w1) := Lib.hid (hb.trans (hb1.mono hb.size))
      have HT : Hid ((xss.take (j + 1)).any p = p xss[j]) := by
        show _ = _
        rw [List.take_succ_eq_append_getElem hlt, List.any_append, Hh.out]
        simp
      have HM : xss[j] ∈ xss := List.getElem_mem hlt
      have HA : Hid (p xss[j] = true → xss.any p = true) := fun h1 => List.any_eq_true.2 ⟨_, HM, h1⟩
      clear hb1 hb HM
      by_cases hp : p xss[j] = true
      · rw [hp]
        have HP := Lib.hid hp; clear hp
        go_wp2
        go_ret
        exact ⟨j, rfl, by rw [HA.out HP.out]; simp, HB.out⟩
      · rw [Bool.not_eq_true] at hp
        rw [hp]
        have HP := Lib.hid hp; clear hp
        go_wp2
        go_roundw
        case rel => exact ⟨j + 1, by omega, by go_num, by rw [HT.out, HP.out], HB.out⟩
        case measure => simp [intOf]; omega
    · have HE : Hid (xss.any p = false) := by
        have := Hh.out
        rw [List.take_of_length_le (by omega)] at this
        exact this
      have HB := Lib.hid hb; clear hb
      go_wp2
      go_ret
      exact ⟨-1, rfl, by rw [HE.out]; decide, HB.out⟩
theorem impl_areFormulas_1 (v : Value) (xs : List Nd) (w : World) (h : Sl cN w v xs) (hl : xs.length ≤ 1048576) :
    Calls Tryz.prog 132 #[v] w fun e w' => e = .returned (.bool (!isF xs)) ∧ Below w.heap.size w w' := by
  go_enter Tryz.func132, Tryz.ntmps132
  go_wp2_with fail
  refine (impl_isFormula v xs _ h (by omega)).mono ?_
  rintro e w1 ⟨rfl, hb⟩
  have HB := Lib.hid hb; clear hb
  go_wp2
  go_ret
  exact ⟨rfl, HB.out⟩
theorem en_areFormulas_1 : ∀ (args : Array Value) (w : World), (callFunc 132 args).run Tryz.prog w = .ok (.enter 132 args) w := enters Tryz.func132 (by kernel_rfl) (by kernel_rfl)
theorem impl_areFormulas (v : Value) (xss : List (List Nd)) (w : World) (h : Sl2 cN w v xss) (hl : xss.length ≤ 1073741824) (hls : ∀ xs ∈ xss, xs.length ≤ 1048576) :
    Calls Tryz.prog 61 #[v] w fun e w' => e = .returned (.bool (xss.all isF)) ∧ Below w.heap.size w w' := by
  have hi := slices_IndexFunc_nodes v xss 132 #[] (fun xs => !isF xs) w h hl en_areFormulas_1 (fun w' _ u xs hx hs => by rw [Array.append_empty]; exact impl_areFormulas_1 u xs w' hs (hls xs hx))
  have HI := Lib.hid hi; clear hi
  have HE : Hid (xss.all isF = !xss.any fun xs => !isF xs) := by
    show _ = _
    rw [Bool.eq_iff_iff]
    simp
  clear h hls
  have hc : Calls Tryz.prog 131 #[v, .func (.func 132) #[] #[]] w fun e w' => e = .returned (.bool (xss.any fun xs => !isF xs)) ∧ Below w.heap.size w w' := by
    go_enter Tryz.func131, Tryz.ntmps131
    go_wp2_with fail
    refine HI.out.mono ?_
    rintro e w1 ⟨r, rfl, hr, hb⟩
    have HR := Lib.hid hr; clear hr
    have HB := Lib.hid hb; clear hb
    go_wp2
    go_ret
    exact ⟨by rw [← HR.out]; rfl, HB.out⟩
  have HC := Lib.hid hc; clear hc HI
  go_enter Tryz.func61, Tryz.ntmps61
  go_wp2_with fail
  refine HC.out.mono ?_
  rintro e w1 ⟨rfl, hb⟩
  have HB := Lib.hid hb; clear hb
  go_wp2
  go_ret
  exact ⟨by rw [HE.out]; rfl, HB.out⟩
theorem impl_variablesIn (v : Value) (xss : List (List Nd)) (w : World) (h : Sl2 cN w v xss) (hl : xss.length ≤ 1073741824) (hf : ∀ xs ∈ xss, isF xs = true) :
    Calls Tryz.prog 191 #[v] w fun e w' => ∃ u, e = .returned u ∧ Ow cI 2 w.heap.size w' u (mems (vmasks xss)) ∧ Below w.heap.size w w' := by
  obtain ⟨A, c, rfl⟩ := h.opn
  have HF := Lib.hid hf; clear hf
  go_enter Tryz.func191, Tryz.ntmps191
  go_wp2
  go_loopw [3, 8] (fun m i wr => ∃ j : Nat, j ≤ xss.length ∧ i = .int .i64 j ∧ m = .int .i64 (vmasks (xss.take j) : Nat) ∧ Below w.heap.size w wr) (fun _ i _ => xss.length - (intOf i).toNat)
  case atStart => exact ⟨0, Nat.zero_le _, rfl, rfl, Below.refl _ _⟩
  case round =>
    obtain ⟨j, hj, rfl, rfl, hb⟩ := hrel
    have hm : vmasks (xss.take j) < 64 := vmasks_lt _ fun n hn => HF.out n (List.mem_of_mem_take hn)
    by_cases hlt : j < xss.length
    · obtain ⟨b, o, Ai, ni, ci, rfl, hbl, hc0, hs⟩ := (h.below hb).at_ hlt
      have hF := HF.out _ (List.getElem_mem hlt)
      have HV : Hid (vmasks (xss.take (j + 1)) = vmasks (xss.take j) ||| vmask xss[j]) := by
        show _ = _
        rw [List.take_succ_eq_append_getElem hlt, vmasks_snoc]
      have hm2 := vmask_lt _ (isF_nodes hF)
      have e2 := i64_or_nat (vmasks (xss.take j)) (vmask xss[j]) (by omega) (by omega)
      have HS := Lib.hid hs; clear hs
      have H2 := Lib.hid hF; clear hF
      go_wp2_with fail
      refine (impl_variableMask _ _ _ HS.out (by have := isF_len H2.out; omega) (isF_nodes H2.out)).mono ?_
      rintro e w1 ⟨rfl, hb1⟩
      have HB : Hid (Below w.heap.size w w1) := Lib.hid (bthen hb hb1)
      clear hb1 hb
      go_wp2
      go_roundw
      case rel => exact ⟨j + 1, by omega, by go_num, by rw [HV.out], HB.out⟩
      case measure => simp [intOf]; omega
    · have ht : xss.take j = xss := List.take_of_length_le (by omega)
      rw [ht] at hm
      have HT := Lib.hid ht; clear ht
      go_wp2_with fail
      rw [HT.out]
      refine (impl_membersOf (vmasks xss) _ (by omega)).mono ?_
      rintro e w1 ⟨u, rfl, ho, hb1⟩
      have O := Lib.hid (ho.mono hb.size); clear ho
      have HB := Lib.hid (bthen hb hb1); clear hb hb1
      go_wp2
      go_ret
      exact ⟨_, rfl, O.out, HB.out⟩
theorem impl_letterlessCode (v : Value) (xss : List (List Nd)) (w : World) (h : Sl2 cN w v xss) (hl : xss.length ≤ 1073741824) (hls : ∀ xs ∈ xss, xs.length ≤ 1048576) :
    Calls Tryz.prog 112 #[v] w fun e w' => e = .returned (.int .i64 (lcode xss)) ∧ Below w.heap.size w w' := by
  have HF := Lib.hid (impl_areFormulas v xss w h hl hls)
  by_cases hf : xss.all isF = true
  · have hF : ∀ xs ∈ xss, isF xs = true := List.all_eq_true.1 hf
    have HV := Lib.hid (fun w' (hb : Below w.heap.size w w') => impl_variablesIn v xss w' (h.below hb) hl hF)
    have hlen : (mems (vmasks xss)).length ≤ 64 := memsTo_length _ _
    have hm := vmasks_lt xss hF
    have hz := vmasks_zero xss
    have hn := mems_nil (vmasks xss) (by omega)
    rw [hf] at HF
    have HF' := Lib.hid hf
    clear h hls hF hf
    by_cases ha : xss.all letterless = true
    · have e0 : Hid (lcode xss = 0) := by show _ = _; unfold lcode; rw [HF'.out, ha]; rfl
      have hlen0 : (mems (vmasks xss)).length = 0 := by rw [hn.2 (hz.2 ha)]; rfl
      clear hz hn ha hlen
      have HL := Lib.hid hlen0; clear hlen0
      go_enter Tryz.func112, Tryz.ntmps112
      go_wp2_with fail
      refine HF.out.mono ?_
      rintro e w1 ⟨rfl, hb⟩
      go_wp2_with fail
      refine (HV.out w1 hb).mono ?_
      rintro e w2 ⟨u, rfl, ho, hb2⟩
      obtain ⟨A, c, rfl⟩ := ho.opn
      rw [HL.out]
      have HB := Lib.hid (bthen hb hb2)
      clear ho hb hb2
      go_wp2
      go_ret
      exact ⟨by rw [e0.out]; rfl, HB.out⟩
    · have e0 : Hid (lcode xss = 5) := by show _ = _; unfold lcode; rw [HF'.out, if_neg ha]; rfl
      have hlen0 : 0 < (mems (vmasks xss)).length := by
        rcases Nat.eq_zero_or_pos (mems (vmasks xss)).length with h0 | h0
        · exact absurd (hz.1 (hn.1 (List.eq_nil_of_length_eq_zero h0))) ha
        · exact h0
      clear hz hn ha
      go_enter Tryz.func112, Tryz.ntmps112
      go_wp2_with fail
      refine HF.out.mono ?_
      rintro e w1 ⟨rfl, hb⟩
      go_wp2_with fail
      refine (HV.out w1 hb).mono ?_
      rintro e w2 ⟨u, rfl, ho, hb2⟩
      obtain ⟨A, c, rfl⟩ := ho.opn
      have HB := Lib.hid (bthen hb hb2)
      clear ho hb hb2
      go_wp2
      go_ret
      exact ⟨by rw [e0.out]; rfl, HB.out⟩
  · rw [Bool.not_eq_true] at hf
    have e0 : Hid (lcode xss = 1) := by show _ = _; unfold lcode; rw [hf]; rfl
    rw [hf] at HF
    clear h hls hf
    go_enter Tryz.func112, Tryz.ntmps112
    go_wp2_with fail
    refine HF.out.mono ?_
    rintro e w1 ⟨rfl, hb⟩
    have HB := Lib.hid hb
    clear hb
    go_wp2
    go_ret
    exact ⟨by rw [e0.out]; rfl, HB.out⟩
/- Contracts of chapter 32: the code of letterless formulas, of the reference. -/
theorem spec_l32Code (v : Value) (xss : List (List Nd)) (w : World) (h : Sl2 cN w v xss) (hl : xss.length ≤ 1073741824) (hls : ∀ xs ∈ xss, xs.length ≤ 1048576) :
    Calls Tryz.prog 114 #[v] w fun e w' => e = .returned (.int .i64 (lcode xss)) ∧ Below w.heap.size w w' := by
  obtain ⟨A, c, rfl⟩ := h.opn
  have HLS := Lib.hid hls; clear hls
  go_enter Tryz.func114, Tryz.ntmps114
  go_wp2
  go_loop [3] (fun i => ∃ j : Nat, j ≤ xss.length ∧ i = .int .i64 j ∧ (xss.take j).all isF = true) (fun i => xss.length - (intOf i).toNat)
  case atStart => exact ⟨0, Nat.zero_le _, rfl, rfl⟩
  case round =>
    obtain ⟨j, hj, rfl, hh⟩ := hrel
    have Hh := Lib.hid hh; clear hh
    by_cases hlt : j < xss.length
    · obtain ⟨b, o, Ai, ni, ci, rfl, hbl, hc0, hs⟩ := h.at_ hlt
      have HT : Hid ((xss.take (j + 1)).all isF = isF xss[j]) := by
        show _ = _
        rw [List.take_succ_eq_append_getElem hlt, List.all_append, Hh.out]
        simp
      have HA : Hid (isF xss[j] = false → lcode xss = 1) := by
        intro hf
        have : xss.all isF = false := by
          rw [← Bool.not_eq_true]
          intro ha
          have := List.all_eq_true.1 ha _ (List.getElem_mem hlt)
          rw [this] at hf
          cases hf
        unfold lcode
        rw [this]
        rfl
      have HB := Lib.hid (HLS.out _ (List.getElem_mem hlt))
      have HS := Lib.hid hs; clear hs
      go_wp2_with fail
      refine (spec_l02Is _ _ _ HS.out (by have := HB.out; omega)).mono ?_
      rintro e w1 ⟨rfl, rfl⟩
      by_cases hf : isF xss[j] = true
      · rw [hf] at HT ⊢
        clear hf
        go_wp2
        go_round
        case rel => exact ⟨j + 1, by omega, by go_num, HT.out⟩
        case measure => simp [intOf]; omega
      · rw [Bool.not_eq_true] at hf
        have HE := Lib.hid (HA.out hf)
        rw [hf]
        clear hf
        go_wp2
        go_ret
        exact ⟨by rw [HE.out]; rfl, Below.refl _ _⟩
    · have hF : xss.all isF = true := by
        have := Hh.out
        rw [List.take_of_length_le (by omega)] at this
        exact this
      have HF := Lib.hid hF; clear hF
      go_wp2
      go_loopw [4] (fun i wr => ∃ j : Nat, j ≤ xss.length ∧ i = .int .i64 j ∧ (xss.take j).all letterless = true ∧ Below w.heap.size w wr) (fun i _ => xss.length - (intOf i).toNat)
      case atStart => exact ⟨0, Nat.zero_le _, rfl, rfl, Below.refl _ _⟩
      case round =>
        obtain ⟨i, hi, rfl, hh2, hb⟩ := hrel
        have Hh2 := Lib.hid hh2; clear hh2
        by_cases hlt2 : i < xss.length
        · obtain ⟨b, o, Ai, ni, ci, rfl, hbl, hc0, hs⟩ := (h.below hb).at_ hlt2
          have HT : Hid ((xss.take (i + 1)).all letterless = letterless xss[i]) := by
            show _ = _
            rw [List.take_succ_eq_append_getElem hlt2, List.all_append, Hh2.out]
            simp
          have HA : Hid (letterless xss[i] = false → lcode xss = 5) := by
            intro hf
            have : xss.all letterless = false := by
              rw [← Bool.not_eq_true]
              intro ha
              have := List.all_eq_true.1 ha _ (List.getElem_mem hlt2)
              rw [this] at hf
              cases hf
            unfold lcode
            rw [HF.out, this]
            rfl
          have H2 := Lib.hid (List.all_eq_true.1 HF.out _ (List.getElem_mem hlt2))
          have HS := Lib.hid hs; clear hs
          go_wp2_with fail
          refine (spec_l32Letterless _ _ _ HS.out (by have := isF_len H2.out; omega) (isF_nodes H2.out)).mono ?_
          rintro e w1 ⟨rfl, hb1⟩
          have HB2 := Lib.hid (bthen hb hb1)
          clear hb hb1
          by_cases hf : letterless xss[i] = true
          · rw [hf] at HT ⊢
            clear hf
            go_wp2
            go_roundw
            case rel => exact ⟨i + 1, by omega, by go_num, HT.out, HB2.out⟩
            case measure => simp [intOf]; omega
          · rw [Bool.not_eq_true] at hf
            have HE := Lib.hid (HA.out hf)
            rw [hf]
            clear hf
            go_wp2
            go_ret
            exact ⟨by rw [HE.out]; rfl, HB2.out⟩
        · have hF2 : lcode xss = 0 := by
            have := Hh2.out
            rw [List.take_of_length_le (by omega)] at this
            unfold lcode
            rw [HF.out, this]
            rfl
          have HE := Lib.hid hF2; clear hF2
          have HB2 := Lib.hid hb; clear hb
          go_wp2
          go_ret
          exact ⟨by rw [HE.out]; rfl, HB2.out⟩
/- Contracts of IsTrueAtRank, IsLetterlessTheorem and AreLetterlessEqual, of the program and of the reference. -/
theorem vmask_zero (xs : List Nd) : vmask xs = 0 → ∀ n ∈ xs, n.1 ≠ 0 := by
  have key : ∀ (xs : List Nd) (m : Nat), xs.foldl (fun m n => if n.1 = 0 then m ||| 2 ^ n.2.toNat else m) m = 0 → m = 0 ∧ ∀ n ∈ xs, n.1 ≠ 0 := by
    intro xs
    induction xs with
    | nil => intro m h; exact ⟨h, fun n hn => by cases hn⟩
    | cons x t ih =>
      intro m h
      rw [List.foldl_cons] at h
      obtain ⟨h1, h2⟩ := ih _ h
      by_cases hx : x.1 = 0
      · rw [if_pos hx, or_eq_zero] at h1
        have := Nat.pow_pos (n := x.2.toNat) (show 0 < 2 by decide)
        omega
      · rw [if_neg hx] at h1
        refine ⟨h1, fun n hn => ?_⟩
        rcases List.mem_cons.1 hn with rfl | hn
        · exact hx
        · exact h2 n hn
  intro h
  exact (key xs 0 h).2
theorem novar_of (f : Fm) (h : ∀ n ∈ enc f, n.1 ≠ 0) : f.novar = true := by
  induction f with
  | var s => exact absurd rfl (h (0, (s : Int)) (by simp [enc]))
  | fls => rfl
  | bin k a b iha ihb =>
    simp only [Fm.novar, Bool.and_eq_true]
    exact ⟨iha fun n hn => h n (by simp [enc, hn]), ihb fun n hn => h n (by simp [enc, hn])⟩
  | un k a ih => exact ih fun n hn => h n (by simp [enc, hn])
theorem letterless_fm {xs : List Nd} (h : isF xs = true) (h2 : letterless xs = true) : ∃ f : Fm, xs = enc f ∧ f.novar = true ∧ (enc f).length ≤ 40 := by
  obtain ⟨f, _, rfl, hl⟩ := (isF_iff xs).1 h
  exact ⟨f, rfl, novar_of f (vmask_zero _ (by simpa [letterless] using h2)), hl⟩
theorem lcode_one {xs : List Nd} (h : lcode [xs] = 0) : ∃ f : Fm, xs = enc f ∧ f.novar = true ∧ (enc f).length ≤ 40 := by
  simp only [lcode, List.all_cons, List.all_nil, Bool.and_true] at h
  by_cases h1 : isF xs = true
  · by_cases h2 : letterless xs = true
    · exact letterless_fm h1 h2
    · rw [if_pos h1, if_neg h2] at h; exact absurd h (by decide)
  · rw [if_neg h1] at h; exact absurd h (by decide)
/-- a code of formulas that have to be letterless, out of one formula laid as a list -/
theorem impl_lcode1 {A : Option Addr} {n c : Nat} (xs : List Nd) (w : World) (h : Sl cN w (.slice A n c) xs) (hl : xs.length ≤ 1048576) (g : Nat) (hg : g = w.heap.size) :
    Calls Tryz.prog 112 #[.slice (some ⟨g, 0, none⟩) 1 1] (w.alloc (.cells #[.slice A n c] 26)) fun e w' => e = .returned (.int .i64 (lcode [xs])) ∧ Below w.heap.size w w' := by
  subst hg
  exact (impl_letterlessCode _ [xs] _ (Sl2.one h 26) (by simp) (by simpa using hl)).mono fun e w' ⟨he, hb⟩ => ⟨he, ((Below.refl _ _).alloc (Nat.le_refl _) _).trans (hb.mono (by simp))⟩
theorem spec_lcode1 {A : Option Addr} {n c : Nat} (xs : List Nd) (w : World) (h : Sl cN w (.slice A n c) xs) (hl : xs.length ≤ 1048576) (g : Nat) (hg : g = w.heap.size) :
    Calls Tryz.prog 114 #[.slice (some ⟨g, 0, none⟩) 1 1] (w.alloc (.cells #[.slice A n c] 26)) fun e w' => e = .returned (.int .i64 (lcode [xs])) ∧ Below w.heap.size w w' := by
  subst hg
  exact (spec_l32Code _ [xs] _ (Sl2.one h 26) (by simp) (by simpa using hl)).mono fun e w' ⟨he, hb⟩ => ⟨he, ((Below.refl _ _).alloc (Nat.le_refl _) _).trans (hb.mono (by simp))⟩
theorem impl_IsTrueAtRank_bad (v : Value) (xs : List Nd) (n : Int) (w : World) (h : Sl cN w v xs) (hl : xs.length ≤ 1048576) (hc : lcode [xs] ≠ 0) :
    Calls Tryz.prog 46 #[v, .int .i64 n] w fun e w' => e = .returned (.tuple #[.bool false, .int .i64 (lcode [xs])]) ∧ Below w.heap.size w w' := by
  obtain ⟨A, c, rfl⟩ := h.opn
  have H1 := Lib.hid (impl_lcode1 xs w h hl _ rfl)
  have hc' : (lcode [xs] != 0) = true := by simpa using hc
  generalize lcode [xs] = k at *
  clear h hc
  go_enter Tryz.func46, Tryz.ntmps46
  go_wp2_with fail
  refine H1.out.mono ?_
  rintro e w1 ⟨rfl, hb⟩
  have HB := Lib.hid hb; clear hb
  go_wp2
  go_ret2
  exact ⟨rfl, HB.out⟩
theorem impl_IsTrueAtRank_rng (v : Value) (xs : List Nd) (n : Int) (w : World) (h : Sl cN w v xs) (hl : xs.length ≤ 1048576) (hc : lcode [xs] = 0) (hn : inR n 0 60 = false) :
    Calls Tryz.prog 46 #[v, .int .i64 n] w fun e w' => e = .returned (.tuple #[.bool false, .int .i64 2]) ∧ Below w.heap.size w w' := by
  obtain ⟨A, c, rfl⟩ := h.opn
  have H1 := impl_lcode1 xs w h hl _ rfl
  rw [hc] at H1
  have H1 := Lib.hid H1
  have HN := Lib.hid hn
  clear h hc hn
  go_enter Tryz.func46, Tryz.ntmps46
  go_wp2_with fail
  refine H1.out.mono ?_
  rintro e w1 ⟨rfl, hb⟩
  have HB := Lib.hid hb; clear hb
  go_wp2_with fail
  refine (impl_inRange _ _ _ _).mono ?_
  rintro e w2 ⟨rfl, rfl⟩
  rw [HN.out]
  go_wp2
  go_ret2
  exact ⟨rfl, HB.out⟩
theorem impl_IsTrueAtRank_ok (v : Value) (f : Fm) (n : Nat) (w : World) (h : Sl cN w v (enc f)) (hl : (enc f).length ≤ 40) (hc : lcode [enc f] = 0) (hn : n ≤ 60) :
    Calls Tryz.prog 46 #[v, .int .i64 n] w fun e w' => e = .returned (.tuple #[.bool (rk f 0 n), .int .i64 0]) ∧ Below w.heap.size w w' := by
  have HR := Lib.hid (fun W (hW : Sl cN W v (enc f)) => impl_ranksOf f v 0 W (by decide) hW (by omega))
  obtain ⟨A, c, rfl⟩ := h.opn
  have H1 := impl_lcode1 (enc f) w h (by omega) _ rfl
  rw [hc] at H1
  have H1 := Lib.hid H1
  have HN := Lib.hid (inR_true (x := (n : Int)) (l := 0) (h := 60) (by omega) (by omega))
  have hlt := msk_lt (rk f 0) 61
  have E : Hid ((bits .and .i64 ((msk (rk f 0) 61 : Nat) / 2 ^ n) 1 == 1) = rk f 0 n) := by
    show _ = _
    rw [testBit_form _ _ (by omega), msk_testBit, decide_eq_true (by omega), Bool.true_and]
  have Hh := Lib.hid h
  clear h hc
  generalize (enc f).length = L at *
  generalize msk (rk f 0) 61 = q at *
  go_enter Tryz.func46, Tryz.ntmps46
  go_wp2_with fail
  refine H1.out.mono ?_
  rintro e w1 ⟨rfl, hb⟩
  have HB := Lib.hid hb; clear hb
  go_wp2_with fail
  refine (impl_inRange _ _ _ _).mono ?_
  rintro e w2 ⟨rfl, rfl⟩
  rw [HN.out]
  go_wp2_with fail
  refine (HR.out _ (Hh.out.below HB.out)).mono ?_
  rintro e w2 ⟨rfl, rfl⟩
  go_wp2
  go_ret2
  exact ⟨by rw [← E.out]; rfl, HB.out⟩
end Go.Proofs.YtgcoohlakcncbaaGreat

/- FnMerging: the laws' own functions on posets and masks, and what the two sides of MergeAlike and ForcedSet answer together. -/
import Derived.Test.YtomojninngdbeaaGreat24F
import Derived.Test.YtomojninngdbeaaGreatCU
import Derived.Test.YtomojninngdbeaaGreatM24q
import Derived.Test.YtomojninngdbeaaGreatDV
import Derived.Test.YtomojninngdbeaaGreatLK
namespace Go.Proofs.YtomojninngdbeaaGreat
open Go.RowKit
set_option linter.unusedVariables false
set_option linter.unusedSimpArgs false
theorem laws_samePoset9 (b : Int) (v u : Value) (xs : List Int) (w : World) (h : Sl cI w v xs) (h' : Sl cI w u xs) (hl : xs.length ≤ 1073741824) :
    Calls Tryz.prog 8 #[.agg #[.int .i64 b, v], .agg #[.int .i64 b, u]] w fun e w' => e = .returned (.bool true) ∧ Below w.heap.size w w' := by
  obtain ⟨A, c, rfl⟩ := h.opn
  obtain ⟨A', c', rfl⟩ := h'.opn
  have hb1 := below_alloc' w (.cells #[.int .i64 b, .slice A xs.length c] 26)
  have hb2 := below_alloc' (w.alloc (.cells #[.int .i64 b, .slice A xs.length c] 26)) (.cells #[.int .i64 b, .slice A' xs.length c'] 26)
  have HB := Lib.hid (bthen hb1 hb2)
  clear hb1 hb2
  go_enter Tryz.func8, Tryz.ntmps8
  go_wp2_with fail
  refine (laws_likeInts _ _ xs _ (h.below HB.out) (h'.below HB.out) hl).mono ?_
  rintro e w1 ⟨rfl, hb⟩
  have HB1 := Lib.hid (bthen HB.out hb)
  clear hb
  go_wp2
  go_ret
  exact ⟨rfl, HB1.out⟩
theorem laws_bit9 (m i : Nat) (w : World) (hm : m < 9223372036854775808) (hi : i < 62) :
    Calls Tryz.prog 12 #[.int .i64 m, .int .i64 i] w fun e w' => e = .returned (.bool (m.testBit i)) ∧ w = w' := by
  have HE := Lib.hid (testBit_form m i hm)
  go_enter Tryz.func12, Tryz.ntmps12
  go_wp2
  rw [HE.out]
  go_ret
  exact ⟨rfl, rfl⟩
theorem q_bit9 {m i : Nat} {y : Bool} (hy : m.testBit i = y) (hm : m < 256) (hi : i < 62) (W : World) (n : Nat) :
    Calls Tryz.prog 12 #[.int .i64 m, .int .i64 i] (W.drewN n) fun e w'' => e = .returned (.bool y) ∧ ∃ q, w'' = W.drewN q :=
  hy ▸ (laws_bit9 m i _ (by omega) hi).mono fun e w' hh => ⟨hh.1, n, hh.2.symm⟩
theorem laws_full9 (n F : Nat) (hF : F = 2 ^ n - 1) (w : World) (hn : n ≤ 8) :
    Calls Tryz.prog 14 #[.int .i64 n] w fun e w' => e = .returned (.int .i64 (F : Int)) ∧ w = w' := by
  have e1 := wrap_two_pow (n := n) (by omega)
  have e2 := two_pow_le (n := n) (by omega)
  have e3 : (0 : Int) < 2 ^ n := Int.pow_pos (by decide)
  have HE : Hid ((F : Int) = 2 ^ n - 1) := Lib.hid (by rw [hF, Int.ofNat_sub (Nat.pow_pos (by decide)), ← cast_two_pow]; rfl)
  clear hF
  go_enter Tryz.func14, Tryz.ntmps14
  go_wp2
  go_ret
  exact ⟨by rw [HE.out]; rfl, rfl⟩
/-- what both sides answer -/
theorem mrg_both (n : Int) (L1 L2 : List Int) (h1 : L1.length ≤ 9) (h2 : L2.length ≤ 6) : ∃ (q : Int) (X Y Z : List Int) (k : Int), X.length ≤ 8 ∧ Y.length ≤ 6 ∧ Z.length ≤ 8 ∧
    (∀ v u W, Sl cI W v L1 → Sl cI W u L2 → Calls Tryz.prog 6 #[.agg #[.int .i64 n, v], u] W fun e w' => ∃ a b c, e = .returned (.tuple #[.agg #[.int .i64 q, a], b, c, .int .i64 k]) ∧ Sl cI w' a X ∧ Sl cI w' b Y ∧ Sl cI w' c Z ∧ Below W.heap.size W w') ∧
    (∀ v u W, Sl cI W v L1 → Sl cI W u L2 → Calls Tryz.prog 7 #[.agg #[.int .i64 n, v], u] W fun e w' => ∃ a b c, e = .returned (.tuple #[.agg #[.int .i64 q, a], b, c, .int .i64 k]) ∧ Sl cI w' a X ∧ Sl cI w' b Y ∧ Sl cI w' c Z ∧ Below W.heap.size W w') ∧
    (k ≠ 0 ∨ k = 0 ∧ ∃ ns us : List Nat, n = ns.length ∧ L1 = li ns ∧ L2 = li us ∧ MdN ns us ∧ vlOk ns.length (li ns) (li us) = true ∧ PosP ns ∧ (∀ u ∈ us, img ns u = u) ∧ ns.length ≤ 6 ∧ q = qn ns us ∧ X = li (QM ns us).1 ∧ Y = li (QM ns us).2 ∧ Z = li (qcl ns us)) := by
  cases hc : vlOk n L1 L2
  · refine ⟨0, [], [], [], 1, by simp, by simp, by simp, fun v u W a b => ?_, fun v u W a b => ?_, .inl (by decide)⟩
    · exact (impl_MergeAlike_bad n v u L1 L2 W a b (by omega) (by omega) hc).mono fun e w' ⟨he, hb⟩ => ⟨_, _, _, he, Sl.nil, Sl.nil, Sl.nil, hb⟩
    · exact (spec_MergeAlike_bad n v u L1 L2 W a b (by omega) hc).mono fun e w' ⟨he, hb⟩ => ⟨_, _, _, he, Sl.nil, Sl.nil, Sl.nil, hb⟩
  · by_cases h6 : 6 < n
    · refine ⟨0, [], [], [], 3, by simp, by simp, by simp, fun v u W a b => ?_, fun v u W a b => ?_, .inl (by decide)⟩
      · exact (impl_MergeAlike_big n v u L1 L2 W a b (by omega) (by omega) hc h6).mono fun e w' ⟨he, hb⟩ => ⟨_, _, _, he, Sl.nil, Sl.nil, Sl.nil, hb⟩
      · exact (spec_MergeAlike_big n v u L1 L2 W a b (by omega) hc h6).mono fun e w' ⟨he, hb⟩ => ⟨_, _, _, he, Sl.nil, Sl.nil, Sl.nil, hb⟩
    · obtain ⟨ns, us, rfl, rfl, rfl, hm, hp, hi⟩ := vlOk_iff hc
      have h8 := hm.r.1
      refine ⟨qn ns us, li (QM ns us).1, li (QM ns us).2, li (qcl ns us), 0, by rw [li_length, QM_len]; exact qn_le ns us h8, by rw [li_length, (QM_ok hm).l]; exact Nat.le_refl _, by rw [li_length, qcl_length]; exact h8, fun v u W a b => ?_, fun v u W a b => ?_, .inr ⟨rfl, ns, us, rfl, rfl, rfl, hm, hc, pfl_pos hp, hi, by omega, rfl, rfl, rfl, rfl⟩⟩
      · exact (impl_MergeAlike_ok v u ns us W a b hm hc (by omega)).mono fun e w' ⟨B1, d1, B2, d2, B3, d3, H0, H, he, z0, z1, z2, o1, o2, o3, hb⟩ => ⟨_, _, _, he, o1.sl, o2.sl, o3.sl, hb⟩
      · exact (spec_MergeAlike_ok v u ns us W a b hm hc (by omega)).mono fun e w' ⟨B1, d1, B2, d2, B3, d3, H0, H, he, z0, z1, z2, o1, o2, o3, hb⟩ => ⟨_, _, _, he, o1.sl, o2.sl, o3.sl, hb⟩
theorem mrg_again {ns us : List Nat} (hm : MdN ns us) (hp : PosP ns) (hu : ∀ u ∈ us, img ns u = u) (h6 : ns.length ≤ 6) (v u : Value) (W : World) (a : Sl cI W v (li (QM ns us).1)) (b : Sl cI W u (li (QM ns us).2)) :
    Calls Tryz.prog 6 #[.agg #[.int .i64 (qn ns us : Nat), v], u] W fun e w' => ∃ a b c, e = .returned (.tuple #[.agg #[.int .i64 (qn ns us : Nat), a], b, c, .int .i64 0]) ∧ Sl cI w' a (li (QM ns us).1) ∧ Below W.heap.size W w' := by
  have hq := q_vl hm hp hu
  have hl := QM_len ns us
  have hle : qn ns us ≤ 6 := by
    unfold qn
    refine mx_le _ 6 _ fun i hi => ?_
    rw [qcl_length] at hi
    have h1 := qcl_rgf ns us i (by rw [qcl_length]; exact hi)
    have h2 : ∀ k, k ≤ ns.length → mx (qcl ns us) k ≤ k := by
      intro k
      induction k with
      | zero => intro _; exact Nat.le_refl _
      | succ k ih =>
        intro hk
        have h3 := ih (by omega)
        have h4 := qcl_rgf ns us k (by rw [qcl_length]; omega)
        rw [mx]; omega
    have := h2 i (by omega)
    omega
  have e := QM_again hm
  have e2 := QM_qn hm
  have hk : vlOk (QM ns us).1.length (li (QM ns us).1) (li (QM ns us).2) = true := by rw [hl]; exact hq
  have := impl_MergeAlike_ok v u (QM ns us).1 (QM ns us).2 W a b (QM_ok hm) hk (by rw [hl]; exact hle)
  rw [e, e2, hl] at this
  exact this.mono fun e w' ⟨B1, d1, B2, d2, B3, d3, H0, H, he, z0, z1, z2, o1, o2, o3, hb⟩ => ⟨_, _, _, he, o1.sl, hb⟩
theorem pcode_cases (L : List Nd) : pcode [L] ≠ 0 ∨ ∃ f : Fm, L = enc f ∧ f.ok = true ∧ f.plain = true ∧ (enc f).length ≤ 40 := by
  by_cases h : pcode [L] = 0
  · exact .inr (pcode_one h)
  · exact .inl h
theorem fv_lt {ns us : List Nat} (h : MdN ns us) (f : Fm) : fv ns us f < 256 := Nat.lt_of_lt_of_le (tv_lt ns us h.b (gt f)) (two_pow_256 h.r.1)
end Go.Proofs.YtomojninngdbeaaGreat

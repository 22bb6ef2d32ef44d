/- Heyting algebras, of the program: greatest, slices.EqualFunc at tables, sameHeyting. -/
import Derived.Test.Ytkllbehdmlbhaaa18M
namespace Go.Proofs.Ytkllbehdmlbhaaa
open Go.RowKit
set_option linter.unusedVariables false
set_option linter.unusedSimpArgs false
/-- the greatest member of a mask, for the elements below each one -/
def gtI (ns : List Nat) (m : Nat) : Int := if 0 ≤ lwI ns m then lwI ns m else 0
theorem lw_mb_some {ns : List Nat} {m k : Nat} (hk : k < (mb m ns.length).length) (h : andnot m (ns.getD ((mb m ns.length).getD k 0) 0) = 0) (hn : ∀ j, j < k → ¬ andnot m (ns.getD ((mb m ns.length).getD j 0) 0) = 0) : lwI ns m = (((mb m ns.length).getD k 0 : Nat) : Int) := by
  obtain ⟨h1, h2⟩ := mb_in hk
  unfold lwI
  rw [lw_some h1 (by rw [h2, decide_eq_true h]; rfl) fun y hy => ?_]
  cases hb : m.testBit y
  · rfl
  · obtain ⟨j, hj, ej⟩ := List.mem_iff_getElem.1 (mb_iff.2 ⟨show y < ns.length by omega, hb⟩)
    have hjk : j < k := by
      rcases Nat.lt_trichotomy j k with h3 | h3 | h3
      · exact h3
      · subst h3; rw [getD_at hk, ej] at hy; omega
      · have := List.pairwise_iff_getElem.1 (mb_sorted m ns.length) k j hk hj h3
        rw [getD_at hk] at hy; omega
    have := hn j hjk
    rw [getD_at hj, ej] at this
    rw [Bool.true_and]
    exact decide_eq_false this
theorem lw_mb_none {ns : List Nat} {m : Nat} (hn : ∀ j, j < (mb m ns.length).length → ¬ andnot m (ns.getD ((mb m ns.length).getD j 0) 0) = 0) : lwI ns m = -1 := by
  unfold lwI
  rw [lw_none fun y hy => ?_]
  cases hb : m.testBit y
  · rfl
  · obtain ⟨j, hj, ej⟩ := List.mem_iff_getElem.1 (mb_iff.2 ⟨hy, hb⟩)
    have := hn j hj
    rw [getD_at hj, ej] at this
    rw [Bool.true_and]
    exact decide_eq_false this
set_option maxRecDepth 100000 in
theorem impl_greatest (v : Value) (ns : List Nat) (m : Nat) (w : World) (h : Sl cI w v (li ns)) (hr : RelM ns) (hm : m < 2 ^ ns.length) :
    Calls Try.prog 78 #[.int .i64 m, v] w fun e w' => e = .returned (.tuple #[.int .i64 (gtI ns m), .bool (decide (0 ≤ lwI ns m))]) ∧ Below w.heap.size w w' := by
  obtain ⟨A, c, rfl⟩ := h.opn
  have HL := Lib.hid (li_length ns)
  have h30 := hr.1
  have hm2 := Nat.lt_of_lt_of_le hm (two_pow_30 h30)
  rw [HL.out] at h ⊢
  have HS := Lib.hid (fun W (hW : Below w.heap.size w W) => h.below hW)
  have HX := Lib.hid (fun i => hr.lt i)
  have MM := Lib.hid (mems_mb hm (by omega))
  have MI := Lib.hid (fun i (hi : i < (mb m ns.length).length) => (mb_in hi).1)
  have ES := Lib.hid (fun k (hk : k < (mb m ns.length).length) a b => lw_mb_some (ns := ns) (m := m) hk a b)
  have EN := Lib.hid (lw_mb_none (ns := ns) (m := m))
  have hLL : (mb m ns.length).length ≤ ns.length := Nat.le_trans (List.length_filter_le _ _) (by rw [List.length_range]; exact Nat.le_refl _)
  clear h hr hm
  go_enter Try.func78, Try.ntmps78
  go_wp2_with fail
  refine (impl_membersOf m _ (by omega)).mono ?_
  rintro e w1 ⟨u, rfl, ho, hb⟩
  rw [MM.out] at ho
  obtain ⟨L, hL⟩ : ∃ L, mb m ns.length = L := ⟨_, rfl⟩
  rw [hL] at ho MI ES EN hLL
  clear hL MM
  have HB := Lib.hid hb
  obtain ⟨vl, cl, rfl⟩ := ho.opn
  have LI := Lib.hid (li_length L)
  rw [LI.out] at ho ⊢
  have HL5 := Lib.hid ho.sl
  clear hb ho
  go_wp2
  go_loop [11] (fun i => ∃ k : Nat, k ≤ L.length ∧ i = .int .i64 k ∧ ∀ j, j < k → ¬ andnot m (ns.getD (L.getD j 0) 0) = 0) (fun i => L.length - (intOf i).toNat)
  case atStart => exact ⟨0, Nat.zero_le _, rfl, fun j hj => absurd hj (Nat.not_lt_zero _)⟩
  case round =>
    obtain ⟨k, hk, rfl, hh⟩ := hrel
    have HH := Lib.hid hh
    clear hh
    by_cases hlt : k < L.length
    · obtain ⟨b1, o1, e1, hb1, hc1⟩ := HL5.out.atI (k := k) (by rw [LI.out]; exact hlt)
      subst e1
      have hml := MI.out k hlt
      obtain ⟨b2, o2, e2, hb2, hc2⟩ := (HS.out _ HB.out).atI (k := L.getD k 0) (by rw [HL.out]; exact hml)
      subst e2
      rw [li_get] at hc1 hc2
      have hx := HX.out (L.getD k 0)
      have HE := Lib.hid (fun a => ES.out k hlt a HH.out)
      have HN : Hid (¬ andnot m (ns.getD (L.getD k 0) 0) = 0 → ∀ j, j < k + 1 → ¬ andnot m (ns.getD (L.getD j 0) 0) = 0) := Lib.hid (fun hq j hj => by
        rcases Nat.lt_or_ge j k with h1 | h1
        · exact HH.out j h1
        · obtain rfl : j = k := by omega
          exact hq)
      generalize L.getD k 0 = lx at *
      generalize ns.getD lx 0 = g at *
      go_wp2_with fail
      refine (impl_within m g _ (by omega) (by omega)).mono ?_
      rintro e _ ⟨rfl, rfl⟩
      by_cases hz : andnot m g = 0
      · rw [decide_eq_true hz]
        have E1 := HE.out hz
        have E : Hid (gtI ns m = lx ∧ decide (0 ≤ lwI ns m) = true) := Lib.hid ⟨by unfold gtI; rw [E1, if_pos (Int.natCast_nonneg _)], by rw [E1]; exact decide_eq_true (Int.natCast_nonneg _)⟩
        clear hz E1
        go_wp2
        go_ret2
        exact ⟨by rw [E.out.1, E.out.2]; rfl, HB.out⟩
      · rw [decide_eq_false hz]
        have E := Lib.hid (HN.out hz)
        clear hz
        go_wp2
        exact ⟨⟨k + 1, by omega, by go_num, E.out⟩, by simp [intOf]; omega⟩
    · obtain rfl : k = L.length := by omega
      have E1 := EN.out HH.out
      have E : Hid (gtI ns m = 0 ∧ decide (0 ≤ lwI ns m) = false) := Lib.hid ⟨by unfold gtI; rw [E1, if_neg (by decide)], by rw [E1]; rfl⟩
      clear E1
      go_wp2
      go_ret2
      exact ⟨by rw [E.out.1, E.out.2]; rfl, HB.out⟩
theorem en_Equal_int64 : ∀ (args : Array Value) (w : World), (callFunc 81 args).run Try.prog w = .ok (.enter 81 args) w := enters Try.func81 (by kernel_rfl) (by kernel_rfl)
set_option maxRecDepth 100000 in
theorem slices_EqualFunc_rows (v u : Value) (X Y : List (List Int)) (w : World) (h : Sl2 cI w v X) (h' : Sl2 cI w u Y) (hl : X.length ≤ 1048576) (hxy : Y.length = X.length) (hr : ∀ i (a : i < X.length) (b : i < Y.length), Y[i].length = X[i].length ∧ X[i].length ≤ 1048576) :
    Calls Try.prog 80 #[v, u, .func (.func 81) #[] #[]] w fun e w' => e = .returned (.bool (decide (X = Y))) ∧ Below w.heap.size w w' := by
  obtain ⟨A0, c0, rfl⟩ := h.opn
  obtain ⟨A1, c1, rfl⟩ := h'.opn
  have ET : Hid ((∀ i (a : i < X.length) (b : i < Y.length), X[i] = Y[i]) → X = Y) := Lib.hid (fun hh => List.ext_getElem hxy.symm hh)
  have EF : Hid (∀ i (a : i < X.length) (b : i < Y.length), X[i] ≠ Y[i] → ¬ X = Y) := Lib.hid (fun i a b hn he => hn (by subst he; rfl))
  have HX := Lib.hid h
  have HY := Lib.hid h'
  have HR := Lib.hid hr
  have HQ := Lib.hid hxy
  have EN := Lib.hid en_Equal_int64
  rw [hxy]
  rw [hxy] at HY
  clear h h' hr hxy
  go_enter Try.func80, Try.ntmps80
  go_wp2
  go_loopw [17] (fun i wr => ∃ x : Nat, x ≤ X.length ∧ i = .int .i64 x ∧ (∀ i (a : i < X.length) (b : i < Y.length), i < x → X[i] = Y[i]) ∧ Below w.heap.size w wr) (fun i _ => X.length - (intOf i).toNat)
  case atStart => exact ⟨0, Nat.zero_le _, rfl, fun i _ _ hi => absurd hi (Nat.not_lt_zero _), Below.refl _ _⟩
  case round =>
    obtain ⟨x, hx, rfl, hh, hb⟩ := hrel
    obtain ⟨w2, hw2⟩ : ∃ W, W = wr := ⟨_, rfl⟩
    subst hw2
    have HH := Lib.hid hh
    have HB := Lib.hid hb
    by_cases hlt : x < X.length
    · have hlt2 : x < Y.length := by rw [HQ.out]; exact hlt
      obtain ⟨b, o, Aj, nj, cj, rfl, hbl, hcx, hsx⟩ := (HX.out.below hb).at_ (k := x) hlt
      obtain ⟨d, q, Ak, nk, ck, rfl, hdl, hdx, hsy⟩ := (HY.out.below hb).at_ (k := x) hlt2
      have HFx := Lib.hid (EF.out x hlt hlt2)
      obtain ⟨r1, r2⟩ := HR.out x hlt hlt2
      have HN : Hid (X[x] = Y[x] → ∀ i (a : i < X.length) (b : i < Y.length), i < x + 1 → X[i] = Y[i]) := Lib.hid (fun hk i a b hi => by
        rcases Nat.lt_or_ge i x with h1 | h1
        · exact HH.out i a b h1
        · obtain rfl : i = x := by omega
          exact hk)
      have HC := Lib.hid (slices_Equal_int64 _ _ X[x] Y[x] w2 hsx hsy (by omega) r1)
      clear hh hb hsx hsy r1 r2
      generalize X[x] = m at *
      generalize Y[x] = k at *
      go_wp2_with fail
      refine HC.out.mono ?_
      rintro e w3 ⟨rfl, hb⟩
      have HB3 := Lib.hid (bthen HB.out hb)
      clear hb hcx hdx
      by_cases hmk : m = k
      · have E := Lib.hid (HN.out hmk)
        have e1 : decide (m = k) = true := decide_eq_true hmk
        rw [e1]
        clear hmk e1
        go_wp2
        exact ⟨⟨x + 1, by omega, by go_num, E.out, HB3.out⟩, by simp [intOf]; omega⟩
      · have E := Lib.hid (decide_eq_false (HFx.out hmk))
        have e1 : decide (m = k) = false := decide_eq_false hmk
        rw [e1]
        clear hmk e1
        go_wp2
        go_ret
        exact ⟨by rw [E.out]; rfl, HB3.out⟩
    · obtain rfl : x = X.length := by omega
      have E := Lib.hid (decide_eq_true (ET.out fun i a b => HH.out i a b a))
      clear hh hb
      go_wp2
      go_ret
      exact ⟨by rw [E.out]; rfl, HB.out⟩
end Go.Proofs.Ytkllbehdmlbhaaa

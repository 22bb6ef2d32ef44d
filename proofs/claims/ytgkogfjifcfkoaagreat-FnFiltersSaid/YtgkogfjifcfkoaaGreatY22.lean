/- Joined of several texts. -/
import Derived.Test.YtgkogfjifcfkoaaGreatY21
namespace Go.Proofs.YtgkogfjifcfkoaaGreat
/- Heyting algebras, of the program: greatest, slices.EqualFunc at tables, sameHeyting. -/
open Go.RowKit
set_option linter.unusedVariables false
set_option linter.unusedSimpArgs false
/-- the greatest member of a mask, for the elements below each one -/
def gtI (ns : List Nat) (m : Nat) : Int := if 0 ≤ lwI ns m then lwI ns m else 0
theorem lw_mb_some {ns : List Nat} {m k : Nat} (hk : k < (mb m ns.length).length) (h : andnot m (ns.getD ((mb m ns.length).getD k 0) 0) = 0) (hn : ∀ j, j < k → ¬ andnot m (ns.getD ((mb m ns.length).getD j 0) 0) = 0) : lwI ns m = (((mb m ns.length).getD k 0 : Nat) : Int) := by
  obtain ⟨h1, h2⟩ := mb_in hk
  unfold lwI
  rw [lw_some h1 (by rw [h2, decide_eq_true h]; rfl) fun y hy => ?_]
  cases hb : m.testBit y
  · rfl
  · obtain ⟨j, hj, ej⟩ := List.mem_iff_getElem.1 (mb_iff.2 ⟨show y < ns.length by omega, hb⟩)
    have hjk : j < k := by
      rcases Nat.lt_trichotomy j k with h3 | h3 | h3
      · exact h3
      · subst h3; rw [getD_at hk, ej] at hy; omega
      · have := List.pairwise_iff_getElem.1 (mb_sorted m ns.length) k j hk hj h3
        rw [getD_at hk] at hy; omega
    have := hn j hjk
    rw [getD_at hj, ej] at this
    rw [Bool.true_and]
    exact decide_eq_false this
theorem lw_mb_none {ns : List Nat} {m : Nat} (hn : ∀ j, j < (mb m ns.length).length → ¬ andnot m (ns.getD ((mb m ns.length).getD j 0) 0) = 0) : lwI ns m = -1 := by
  unfold lwI
  rw [lw_none fun y hy => ?_]
  cases hb : m.testBit y
  · rfl
  · obtain ⟨j, hj, ej⟩ := List.mem_iff_getElem.1 (mb_iff.2 ⟨hy, hb⟩)
    have := hn j hj
    rw [getD_at hj, ej] at this
    rw [Bool.true_and]
    exact decide_eq_false this
set_option maxRecDepth 100000 in
theorem impl_greatest (v : Value) (ns : List Nat) (m : Nat) (w : World) (h : Sl cI w v (li ns)) (hr : RelM ns) (hm : m < 2 ^ ns.length) :
    Calls Tryz.prog 134 #[.int .i64 m, v] w fun e w' => e = .returned (.tuple #[.int .i64 (gtI ns m), .bool (decide (0 ≤ lwI ns m))]) ∧ Below w.heap.size w w' := by
  obtain ⟨A, c, rfl⟩ := h.opn
  have HL := Lib.hid (li_length ns)
  have h30 := hr.1
  have hm2 := Nat.lt_of_lt_of_le hm (two_pow_30 h30)
  rw [HL.out] at h ⊢
  have HS := Lib.hid (fun W (hW : Below w.heap.size w W) => h.below hW)
  have HX := Lib.hid (fun i => hr.lt i)
  have MM := Lib.hid (mems_mb hm (by omega))
  have MI := Lib.hid (fun i (hi : i < (mb m ns.length).length) => (mb_in hi).1)
  have ES := Lib.hid (fun k (hk : k < (mb m ns.length).length) a b => lw_mb_some (ns := ns) (m := m) hk a b)
  have EN := Lib.hid (lw_mb_none (ns := ns) (m := m))
  have hLL : (mb m ns.length).length ≤ ns.length := Nat.le_trans (List.length_filter_le _ _) (by rw [List.length_range]; exact Nat.le_refl _)
  clear h hr hm
  go_enter Tryz.func134, Tryz.ntmps134
  go_wp2_with fail
  refine (impl_membersOf m _ (by omega)).mono ?_
  rintro e w1 ⟨u, rfl, ho, hb⟩
  rw [MM.out] at ho
  obtain ⟨L, hL⟩ : ∃ L, mb m ns.length = L := ⟨_, rfl⟩
  rw [hL] at ho MI ES EN hLL
  clear hL MM
  have HB := Lib.hid hb
  obtain ⟨vl, cl, rfl⟩ := ho.opn
  have LI := Lib.hid (li_length L)
  rw [LI.out] at ho ⊢
  have HL5 := Lib.hid ho.sl
  clear hb ho
  go_wp2
  go_loop [11] (fun i => ∃ k : Nat, k ≤ L.length ∧ i = .int .i64 k ∧ ∀ j, j < k → ¬ andnot m (ns.getD (L.getD j 0) 0) = 0) (fun i => L.length - (intOf i).toNat)
  case atStart => exact ⟨0, Nat.zero_le _, rfl, fun j hj => absurd hj (Nat.not_lt_zero _)⟩
  case round =>
    obtain ⟨k, hk, rfl, hh⟩ := hrel
    have HH := Lib.hid hh
    clear hh
    by_cases hlt : k < L.length
    · obtain ⟨b1, o1, e1, hb1, hc1⟩ := HL5.out.atI (k := k) (by rw [LI.out]; exact hlt)
      subst e1
      have hml := MI.out k hlt
      obtain ⟨b2, o2, e2, hb2, hc2⟩ := (HS.out _ HB.out).atI (k := L.getD k 0) (by rw [HL.out]; exact hml)
      subst e2
      rw [li_get] at hc1 hc2
      have hx := HX.out (L.getD k 0)
      have HE := Lib.hid (fun a => ES.out k hlt a HH.out)
      have HN : Hid (¬ andnot m (ns.getD (L.getD k 0) 0) = 0 → ∀ j, j < k + 1 → ¬ andnot m (ns.getD (L.getD j 0) 0) = 0) := Lib.hid (fun hq j hj => by
        rcases Nat.lt_or_ge j k with h1 | h1
        · exact HH.out j h1
        · obtain rfl : j = k := by omega
          exact hq)
      generalize L.getD k 0 = lx at *
      generalize ns.getD lx 0 = g at *
      go_wp2_with fail
      refine (impl_within m g _ (by omega) (by omega)).mono ?_
      rintro e _ ⟨rfl, rfl⟩
      by_cases hz : andnot m g = 0
      · rw [decide_eq_true hz]
        have E1 := HE.out hz
        have E : Hid (gtI ns m = lx ∧ decide (0 ≤ lwI ns m) = true) := Lib.hid ⟨by unfold gtI; rw [E1, if_pos (Int.natCast_nonneg _)], by rw [E1]; exact decide_eq_true (Int.natCast_nonneg _)⟩
        clear hz E1
        go_wp2
        go_ret2
        exact ⟨by rw [E.out.1, E.out.2]; rfl, HB.out⟩
      · rw [decide_eq_false hz]
        have E := Lib.hid (HN.out hz)
        clear hz
        go_wp2
        exact ⟨⟨k + 1, by omega, by go_num, E.out⟩, by simp [intOf]; omega⟩
    · obtain rfl : k = L.length := by omega
      have E1 := EN.out HH.out
      have E : Hid (gtI ns m = 0 ∧ decide (0 ≤ lwI ns m) = false) := Lib.hid ⟨by unfold gtI; rw [E1, if_neg (by decide)], by rw [E1]; rfl⟩
      clear E1
      go_wp2
      go_ret2
      exact ⟨by rw [E.out.1, E.out.2]; rfl, HB.out⟩
theorem en_Equal_int64 : ∀ (args : Array Value) (w : World), (callFunc 137 args).run Tryz.prog w = .ok (.enter 137 args) w := enters Tryz.func137 (by kernel_rfl) (by kernel_rfl)
set_option maxRecDepth 100000 in
theorem slices_EqualFunc_rows (v u : Value) (X Y : List (List Int)) (w : World) (h : Sl2 cI w v X) (h' : Sl2 cI w u Y) (hl : X.length ≤ 1048576) (hxy : Y.length = X.length) (hr : ∀ i (a : i < X.length) (b : i < Y.length), Y[i].length = X[i].length ∧ X[i].length ≤ 1048576) :
    Calls Tryz.prog 136 #[v, u, .func (.func 137) #[] #[]] w fun e w' => e = .returned (.bool (decide (X = Y))) ∧ Below w.heap.size w w' := by
  obtain ⟨A0, c0, rfl⟩ := h.opn
  obtain ⟨A1, c1, rfl⟩ := h'.opn
  have ET : Hid ((∀ i (a : i < X.length) (b : i < Y.length), X[i] = Y[i]) → X = Y) := Lib.hid (fun hh => List.ext_getElem hxy.symm hh)
  have EF : Hid (∀ i (a : i < X.length) (b : i < Y.length), X[i] ≠ Y[i] → ¬ X = Y) := Lib.hid (fun i a b hn he => hn (by subst he; rfl))
  have HX := Lib.hid h
  have HY := Lib.hid h'
  have HR := Lib.hid hr
  have HQ := Lib.hid hxy
  have EN := Lib.hid en_Equal_int64
  rw [hxy]
  rw [hxy] at HY
  clear h h' hr hxy
  go_enter Tryz.func136, Tryz.ntmps136
  go_wp2
  go_loopw [17] (fun i wr => ∃ x : Nat, x ≤ X.length ∧ i = .int .i64 x ∧ (∀ i (a : i < X.length) (b : i < Y.length), i < x → X[i] = Y[i]) ∧ Below w.heap.size w wr) (fun i _ => X.length - (intOf i).toNat)
  case atStart => exact ⟨0, Nat.zero_le _, rfl, fun i _ _ hi => absurd hi (Nat.not_lt_zero _), Below.refl _ _⟩
  case round =>
    obtain ⟨x, hx, rfl, hh, hb⟩ := hrel
    obtain ⟨w2, hw2⟩ : ∃ W, W = wr := ⟨_, rfl⟩
    subst hw2
    have HH := Lib.hid hh
    have HB := Lib.hid hb
    by_cases hlt : x < X.length
    · have hlt2 : x < Y.length := by rw [HQ.out]; exact hlt
      obtain ⟨b, o, Aj, nj, cj, rfl, hbl, hcx, hsx⟩ := (HX.out.below hb).at_ (k := x) hlt
      obtain ⟨d, q, Ak, nk, ck, rfl, hdl, hdx, hsy⟩ := (HY.out.below hb).at_ (k := x) hlt2
      have HFx := Lib.hid (EF.out x hlt hlt2)
      obtain ⟨r1, r2⟩ := HR.out x hlt hlt2
      have HN : Hid (X[x] = Y[x] → ∀ i (a : i < X.length) (b : i < Y.length), i < x + 1 → X[i] = Y[i]) := Lib.hid (fun hk i a b hi => by
        rcases Nat.lt_or_ge i x with h1 | h1
        · exact HH.out i a b h1
        · obtain rfl : i = x := by omega
          exact hk)
      have HC := Lib.hid (slices_Equal_int64 _ _ X[x] Y[x] w2 hsx hsy (by omega) r1)
      clear hh hb hsx hsy r1 r2
      generalize X[x] = m at *
      generalize Y[x] = k at *
      go_wp2_with fail
      refine HC.out.mono ?_
      rintro e w3 ⟨rfl, hb⟩
      have HB3 := Lib.hid (bthen HB.out hb)
      clear hb hcx hdx
      by_cases hmk : m = k
      · have E := Lib.hid (HN.out hmk)
        have e1 : decide (m = k) = true := decide_eq_true hmk
        rw [e1]
        clear hmk e1
        go_wp2
        exact ⟨⟨x + 1, by omega, by go_num, E.out, HB3.out⟩, by simp [intOf]; omega⟩
      · have E := Lib.hid (decide_eq_false (HFx.out hmk))
        have e1 : decide (m = k) = false := decide_eq_false hmk
        rw [e1]
        clear hmk e1
        go_wp2
        go_ret
        exact ⟨by rw [E.out]; rfl, HB3.out⟩
    · obtain rfl : x = X.length := by omega
      have E := Lib.hid (decide_eq_true (ET.out fun i a b => HH.out i a b a))
      clear hh hb
      go_wp2
      go_ret
      exact ⟨by rw [E.out]; rfl, HB.out⟩
/- Heyting algebras, of the program: sameHeyting. -/
open Go.RowKit
set_option linter.unusedVariables false
set_option linter.unusedSimpArgs false
/-- two tables of one form -/
structure EqL (X Y : List (List Int)) : Prop where
  l : X.length ≤ 1048576
  e : Y.length = X.length
  r : ∀ i (a : i < X.length) (b : i < Y.length), Y[i].length = X[i].length ∧ X[i].length ≤ 1048576
theorem impl_sameHeyting_1 (v u : Value) (X Y : List (List Int)) (w : World) (h : Sl2 cI w v X) (h' : Sl2 cI w u Y) (he : EqL X Y) :
    Calls Tryz.prog 135 #[v, u] w fun e w' => e = .returned (.bool (decide (X = Y))) ∧ Below w.heap.size w w' := by
  obtain ⟨A0, c0, rfl⟩ := h.opn
  obtain ⟨A1, c1, rfl⟩ := h'.opn
  have HC := Lib.hid (slices_EqualFunc_rows _ _ X Y w h h' he.l he.e he.r)
  clear h h' he
  go_enter Tryz.func135, Tryz.ntmps135
  go_wp2_with fail
  refine HC.out.mono ?_
  rintro e w1 ⟨rfl, hb⟩
  have HB := Lib.hid hb
  clear hb
  go_wp2
  go_ret
  exact ⟨rfl, HB.out⟩
theorem en_sameHeyting_1 : ∀ (args : Array Value) (w : World), (callFunc 135 args).run Tryz.prog w = .ok (.enter 135 args) w := enters Tryz.func135 (by kernel_rfl) (by kernel_rfl)
set_option maxRecDepth 100000 in
theorem impl_sameHeyting (a o i a' o' i' : Value) (b t b' t' : Int) (A O I A' O' I' : List (List Int)) (w : World) (h : Hy w a o i A O I) (h' : Hy w a' o' i' A' O' I') (e1 : EqL A A') (e2 : EqL O O') (e3 : EqL I I') :
    Calls Tryz.prog 91 #[.agg #[a, o, i, .int .i64 b, .int .i64 t], .agg #[a', o', i', .int .i64 b', .int .i64 t']] w
      fun e w' => e = .returned (.bool (decide (A = A' ∧ O = O' ∧ I = I' ∧ b = b' ∧ t = t'))) ∧ Below w.heap.size w w' := by
  obtain ⟨va, ca, rfl⟩ := h.a.opn
  obtain ⟨vo, co, rfl⟩ := h.o.opn
  obtain ⟨vi, ci, rfl⟩ := h.i.opn
  obtain ⟨va', ca', rfl⟩ := h'.a.opn
  obtain ⟨vo', co', rfl⟩ := h'.o.opn
  obtain ⟨vi', ci', rfl⟩ := h'.i.opn
  have hb0 := below_alloc' w (.cells #[.slice va A.length ca, .slice vo O.length co, .slice vi I.length ci, .int .i64 b, .int .i64 t] 26)
  have hk0 := Blk.new w 26 #[.slice va A.length ca, .slice vo O.length co, .slice vi I.length ci, .int .i64 b, .int .i64 t]
  have hb1 := below_alloc' (w.alloc (.cells #[.slice va A.length ca, .slice vo O.length co, .slice vi I.length ci, .int .i64 b, .int .i64 t] 26)) (.cells #[.slice va' A'.length ca', .slice vo' O'.length co', .slice vi' I'.length ci', .int .i64 b', .int .i64 t'] 26)
  have hk1 : Blk _ (w.heap.size + 1) _ _ := Blk.new' (w.alloc (.cells #[.slice va A.length ca, .slice vo O.length co, .slice vi I.length ci, .int .i64 b, .int .i64 t] 26)) 26 #[.slice va' A'.length ca', .slice vo' O'.length co', .slice vi' I'.length ci', .int .i64 b', .int .i64 t'] (by simp)
  have HB := Lib.hid (bthen hb0 hb1)
  have HK0 := Lib.hid (hk0.below hb1 hk0.lt)
  have HK1 := Lib.hid hk1
  have S1 := Lib.hid (fun W (hW : Below w.heap.size w W) => impl_sameHeyting_1 _ _ A A' W (h.a.below hW) (h'.a.below hW) e1)
  have S2 := Lib.hid (fun W (hW : Below w.heap.size w W) => impl_sameHeyting_1 _ _ O O' W (h.o.below hW) (h'.o.below hW) e2)
  have S3 := Lib.hid (fun W (hW : Below w.heap.size w W) => impl_sameHeyting_1 _ _ I I' W (h.i.below hW) (h'.i.below hW) e3)
  have EN := Lib.hid en_sameHeyting_1
  clear hb0 hb1 hk0 hk1 h h' e1 e2 e3
  by_cases q : b = b'
  rotate_left
  · have E : Hid (decide (A = A' ∧ O = O' ∧ I = I' ∧ b = b' ∧ t = t') = false) := Lib.hid (decide_eq_false fun hh => q hh.2.2.2.1)
    have q1 : (b == b') = false := beq_eq_false_iff_ne.2 q
    clear q
    go_enter Tryz.func91, Tryz.ntmps91
    go_upto_region 1 with fail
    generalize World.alloc (w.alloc _) _ = W at *
    have k0 := HK0.out.cell
    have k1 := HK1.out.cell
    go_wp2
    go_ret
    exact ⟨by rw [E.out]; rfl, HB.out⟩
  by_cases q' : t = t'
  rotate_left
  · have E : Hid (decide (A = A' ∧ O = O' ∧ I = I' ∧ b = b' ∧ t = t') = false) := Lib.hid (decide_eq_false fun hh => q' hh.2.2.2.2)
    have q1 : (b == b') = true := beq_iff_eq.2 q
    have q2 : (t == t') = false := beq_eq_false_iff_ne.2 q'
    clear q q'
    go_enter Tryz.func91, Tryz.ntmps91
    go_upto_region 1 with fail
    generalize World.alloc (w.alloc _) _ = W at *
    have k0 := HK0.out.cell
    have k1 := HK1.out.cell
    go_wp2
    go_ret
    exact ⟨by rw [E.out]; rfl, HB.out⟩
  have E1 : Hid (decide (A = A' ∧ O = O' ∧ I = I' ∧ b = b' ∧ t = t') = decide (A = A' ∧ O = O' ∧ I = I')) := Lib.hid (by rw [Bool.eq_iff_iff, decide_eq_true_eq, decide_eq_true_eq]; exact ⟨fun hh => ⟨hh.1, hh.2.1, hh.2.2.1⟩, fun hh => ⟨hh.1, hh.2.1, hh.2.2, q, q'⟩⟩)
  rw [E1.out]
  have q1 : (b == b') = true := beq_iff_eq.2 q
  have q2 : (t == t') = true := beq_iff_eq.2 q'
  clear q q' E1
  go_enter Tryz.func91, Tryz.ntmps91
  go_upto_region 1 with fail
  generalize World.alloc (w.alloc _) _ = W at *
  have k0 := HK0.out.cell
  have k1 := HK1.out.cell
  have l0 := HK0.out.lt
  have l1 := HK1.out.lt
  go_wp2_with fail
  refine (S1.out _ HB.out).mono ?_
  rintro e w1 ⟨rfl, hb⟩
  have HB1 := Lib.hid (bthen HB.out hb)
  have J0 := Lib.hid (HK0.out.below hb l0)
  have J1 := Lib.hid (HK1.out.below hb l1)
  clear k0 k1 l0 l1 hb
  by_cases e1 : A = A'
  rotate_left
  · have E : Hid (decide (A = A' ∧ O = O' ∧ I = I') = false) := Lib.hid (decide_eq_false fun hh => e1 hh.1)
    rw [decide_eq_false e1]
    clear e1
    go_wp2
    go_ret
    exact ⟨by rw [E.out]; rfl, HB1.out⟩
  have E1 := Lib.hid e1
  rw [decide_eq_true e1]
  clear e1
  have k0 := J0.out.cell
  have k1 := J1.out.cell
  have l0 := J0.out.lt
  have l1 := J1.out.lt
  go_wp2_with fail
  refine (S2.out _ HB1.out).mono ?_
  rintro e w2 ⟨rfl, hb⟩
  have HB2 := Lib.hid (bthen HB1.out hb)
  have M0 := Lib.hid (J0.out.below hb l0)
  have M1 := Lib.hid (J1.out.below hb l1)
  clear k0 k1 l0 l1 hb
  by_cases e1 : O = O'
  rotate_left
  · have E : Hid (decide (A = A' ∧ O = O' ∧ I = I') = false) := Lib.hid (decide_eq_false fun hh => e1 hh.2.1)
    rw [decide_eq_false e1]
    clear e1
    go_wp2
    go_ret
    exact ⟨by rw [E.out]; rfl, HB2.out⟩
  have E2 := Lib.hid e1
  rw [decide_eq_true e1]
  clear e1
  have k0 := M0.out.cell
  have k1 := M1.out.cell
  have l0 := M0.out.lt
  have l1 := M1.out.lt
  go_wp2_with fail
  refine (S3.out _ HB2.out).mono ?_
  rintro e w3 ⟨rfl, hb⟩
  have HB3 := Lib.hid (bthen HB2.out hb)
  clear k0 k1 l0 l1 hb
  by_cases e1 : I = I'
  · have E : Hid (decide (A = A' ∧ O = O' ∧ I = I') = true) := Lib.hid (decide_eq_true ⟨E1.out, E2.out, e1⟩)
    rw [decide_eq_true e1]
    clear e1
    go_wp2
    go_ret
    exact ⟨by rw [E.out]; rfl, HB3.out⟩
  · have E : Hid (decide (A = A' ∧ O = O' ∧ I = I') = false) := Lib.hid (decide_eq_false fun hh => e1 hh.2.2)
    rw [decide_eq_false e1]
    clear e1
    go_wp2
    go_ret
    exact ⟨by rw [E.out]; rfl, HB3.out⟩
end Go.Proofs.YtgkogfjifcfkoaaGreat

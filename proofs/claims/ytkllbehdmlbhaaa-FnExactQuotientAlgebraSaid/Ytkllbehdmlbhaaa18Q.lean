/- Heyting algebras, of the program: sameHeyting. -/
import Derived.Test.Ytkllbehdmlbhaaa18O
namespace Go.Proofs.Ytkllbehdmlbhaaa
open Go.RowKit
set_option linter.unusedVariables false
set_option linter.unusedSimpArgs false
/-- two tables of one form -/
structure EqL (X Y : List (List Int)) : Prop where
  l : X.length ≤ 1048576
  e : Y.length = X.length
  r : ∀ i (a : i < X.length) (b : i < Y.length), Y[i].length = X[i].length ∧ X[i].length ≤ 1048576
theorem impl_sameHeyting_1 (v u : Value) (X Y : List (List Int)) (w : World) (h : Sl2 cI w v X) (h' : Sl2 cI w u Y) (he : EqL X Y) :
    Calls Try.prog 79 #[v, u] w fun e w' => e = .returned (.bool (decide (X = Y))) ∧ Below w.heap.size w w' := by
  obtain ⟨A0, c0, rfl⟩ := h.opn
  obtain ⟨A1, c1, rfl⟩ := h'.opn
  have HC := Lib.hid (slices_EqualFunc_rows _ _ X Y w h h' he.l he.e he.r)
  clear h h' he
  go_enter Try.func79, Try.ntmps79
  go_wp2_with fail
  refine HC.out.mono ?_
  rintro e w1 ⟨rfl, hb⟩
  have HB := Lib.hid hb
  clear hb
  go_wp2
  go_ret
  exact ⟨rfl, HB.out⟩
theorem en_sameHeyting_1 : ∀ (args : Array Value) (w : World), (callFunc 79 args).run Try.prog w = .ok (.enter 79 args) w := enters Try.func79 (by kernel_rfl) (by kernel_rfl)
set_option maxRecDepth 100000 in
theorem impl_sameHeyting (a o i a' o' i' : Value) (b t b' t' : Int) (A O I A' O' I' : List (List Int)) (w : World) (h : Hy w a o i A O I) (h' : Hy w a' o' i' A' O' I') (e1 : EqL A A') (e2 : EqL O O') (e3 : EqL I I') :
    Calls Try.prog 62 #[.agg #[a, o, i, .int .i64 b, .int .i64 t], .agg #[a', o', i', .int .i64 b', .int .i64 t']] w
      fun e w' => e = .returned (.bool (decide (A = A' ∧ O = O' ∧ I = I' ∧ b = b' ∧ t = t'))) ∧ Below w.heap.size w w' := by
  obtain ⟨va, ca, rfl⟩ := h.a.opn
  obtain ⟨vo, co, rfl⟩ := h.o.opn
  obtain ⟨vi, ci, rfl⟩ := h.i.opn
  obtain ⟨va', ca', rfl⟩ := h'.a.opn
  obtain ⟨vo', co', rfl⟩ := h'.o.opn
  obtain ⟨vi', ci', rfl⟩ := h'.i.opn
  have hb0 := below_alloc' w (.cells #[.slice va A.length ca, .slice vo O.length co, .slice vi I.length ci, .int .i64 b, .int .i64 t] 29)
  have hk0 := Blk.new w 29 #[.slice va A.length ca, .slice vo O.length co, .slice vi I.length ci, .int .i64 b, .int .i64 t]
  have hb1 := below_alloc' (w.alloc (.cells #[.slice va A.length ca, .slice vo O.length co, .slice vi I.length ci, .int .i64 b, .int .i64 t] 29)) (.cells #[.slice va' A'.length ca', .slice vo' O'.length co', .slice vi' I'.length ci', .int .i64 b', .int .i64 t'] 29)
  have hk1 : Blk _ (w.heap.size + 1) _ _ := Blk.new' (w.alloc (.cells #[.slice va A.length ca, .slice vo O.length co, .slice vi I.length ci, .int .i64 b, .int .i64 t] 29)) 29 #[.slice va' A'.length ca', .slice vo' O'.length co', .slice vi' I'.length ci', .int .i64 b', .int .i64 t'] (by simp)
  have HB := Lib.hid (bthen hb0 hb1)
  have HK0 := Lib.hid (hk0.below hb1 hk0.lt)
  have HK1 := Lib.hid hk1
  have S1 := Lib.hid (fun W (hW : Below w.heap.size w W) => impl_sameHeyting_1 _ _ A A' W (h.a.below hW) (h'.a.below hW) e1)
  have S2 := Lib.hid (fun W (hW : Below w.heap.size w W) => impl_sameHeyting_1 _ _ O O' W (h.o.below hW) (h'.o.below hW) e2)
  have S3 := Lib.hid (fun W (hW : Below w.heap.size w W) => impl_sameHeyting_1 _ _ I I' W (h.i.below hW) (h'.i.below hW) e3)
  have EN := Lib.hid en_sameHeyting_1
  clear hb0 hb1 hk0 hk1 h h' e1 e2 e3
  by_cases q : b = b'
  rotate_left
  · have E : Hid (decide (A = A' ∧ O = O' ∧ I = I' ∧ b = b' ∧ t = t') = false) := Lib.hid (decide_eq_false fun hh => q hh.2.2.2.1)
    have q1 : (b == b') = false := beq_eq_false_iff_ne.2 q
    clear q
    go_enter Try.func62, Try.ntmps62
    go_upto_region 1 with fail
    generalize World.alloc (w.alloc _) _ = W at *
    have k0 := HK0.out.cell
    have k1 := HK1.out.cell
    go_wp2
    go_ret
    exact ⟨by rw [E.out]; rfl, HB.out⟩
  by_cases q' : t = t'
  rotate_left
  · have E : Hid (decide (A = A' ∧ O = O' ∧ I = I' ∧ b = b' ∧ t = t') = false) := Lib.hid (decide_eq_false fun hh => q' hh.2.2.2.2)
    have q1 : (b == b') = true := beq_iff_eq.2 q
    have q2 : (t == t') = false := beq_eq_false_iff_ne.2 q'
    clear q q'
    go_enter Try.func62, Try.ntmps62
    go_upto_region 1 with fail
    generalize World.alloc (w.alloc _) _ = W at *
    have k0 := HK0.out.cell
    have k1 := HK1.out.cell
    go_wp2
    go_ret
    exact ⟨by rw [E.out]; rfl, HB.out⟩
  have E1 : Hid (decide (A = A' ∧ O = O' ∧ I = I' ∧ b = b' ∧ t = t') = decide (A = A' ∧ O = O' ∧ I = I')) := Lib.hid (by rw [Bool.eq_iff_iff, decide_eq_true_eq, decide_eq_true_eq]; exact ⟨fun hh => ⟨hh.1, hh.2.1, hh.2.2.1⟩, fun hh => ⟨hh.1, hh.2.1, hh.2.2, q, q'⟩⟩)
  rw [E1.out]
  have q1 : (b == b') = true := beq_iff_eq.2 q
  have q2 : (t == t') = true := beq_iff_eq.2 q'
  clear q q' E1
  go_enter Try.func62, Try.ntmps62
  go_upto_region 1 with fail
  generalize World.alloc (w.alloc _) _ = W at *
  have k0 := HK0.out.cell
  have k1 := HK1.out.cell
  have l0 := HK0.out.lt
  have l1 := HK1.out.lt
  go_wp2_with fail
  refine (S1.out _ HB.out).mono ?_
  rintro e w1 ⟨rfl, hb⟩
  have HB1 := Lib.hid (bthen HB.out hb)
  have J0 := Lib.hid (HK0.out.below hb l0)
  have J1 := Lib.hid (HK1.out.below hb l1)
  clear k0 k1 l0 l1 hb
  by_cases e1 : A = A'
  rotate_left
  · have E : Hid (decide (A = A' ∧ O = O' ∧ I = I') = false) := Lib.hid (decide_eq_false fun hh => e1 hh.1)
    rw [decide_eq_false e1]
    clear e1
    go_wp2
    go_ret
    exact ⟨by rw [E.out]; rfl, HB1.out⟩
  have E1 := Lib.hid e1
  rw [decide_eq_true e1]
  clear e1
  have k0 := J0.out.cell
  have k1 := J1.out.cell
  have l0 := J0.out.lt
  have l1 := J1.out.lt
  go_wp2_with fail
  refine (S2.out _ HB1.out).mono ?_
  rintro e w2 ⟨rfl, hb⟩
  have HB2 := Lib.hid (bthen HB1.out hb)
  have M0 := Lib.hid (J0.out.below hb l0)
  have M1 := Lib.hid (J1.out.below hb l1)
  clear k0 k1 l0 l1 hb
  by_cases e1 : O = O'
  rotate_left
  · have E : Hid (decide (A = A' ∧ O = O' ∧ I = I') = false) := Lib.hid (decide_eq_false fun hh => e1 hh.2.1)
    rw [decide_eq_false e1]
    clear e1
    go_wp2
    go_ret
    exact ⟨by rw [E.out]; rfl, HB2.out⟩
  have E2 := Lib.hid e1
  rw [decide_eq_true e1]
  clear e1
  have k0 := M0.out.cell
  have k1 := M1.out.cell
  have l0 := M0.out.lt
  have l1 := M1.out.lt
  go_wp2_with fail
  refine (S3.out _ HB2.out).mono ?_
  rintro e w3 ⟨rfl, hb⟩
  have HB3 := Lib.hid (bthen HB2.out hb)
  clear k0 k1 l0 l1 hb
  by_cases e1 : I = I'
  · have E : Hid (decide (A = A' ∧ O = O' ∧ I = I') = true) := Lib.hid (decide_eq_true ⟨E1.out, E2.out, e1⟩)
    rw [decide_eq_true e1]
    clear e1
    go_wp2
    go_ret
    exact ⟨by rw [E.out]; rfl, HB3.out⟩
  · have E : Hid (decide (A = A' ∧ O = O' ∧ I = I') = false) := Lib.hid (decide_eq_false fun hh => e1 hh.2.2)
    rw [decide_eq_false e1]
    clear e1
    go_wp2
    go_ret
    exact ⟨by rw [E.out]; rfl, HB3.out⟩
end Go.Proofs.Ytkllbehdmlbhaaa

/- Heyting algebras, of the program: IsHeyting, IsFilter, FilterOf, AllFilters. -/
import Derived.Test.YtgkogfjifcfkoaaGreatY25
import Derived.Test.YtgkogfjifcfkoaaGreatY28
import Derived.Test.YtgkogfjifcfkoaaGreatY34
namespace Go.Proofs.YtgkogfjifcfkoaaGreat
open Go.RowKit
set_option linter.unusedVariables false
set_option linter.unusedSimpArgs false
set_option maxRecDepth 100000 in
theorem impl_IsHeyting (a o i : Value) (b t : Int) (A O I : List (List Int)) (w : World) (h : Hy w a o i A O I) (hs : SzH A O I) :
    Calls Tryz.prog 28 #[.agg #[a, o, i, .int .i64 b, .int .i64 t]] w fun e w' => e = .returned (.bool (decide (hyt A O I b t))) ∧ Below w.heap.size w w' := by
  obtain ⟨va, ca, rfl⟩ := h.a.opn
  obtain ⟨vo, co, rfl⟩ := h.o.opn
  obtain ⟨vi, ci, rfl⟩ := h.i.opn
  have hb0 := below_alloc' w (.cells #[.slice va A.length ca, .slice vo O.length co, .slice vi I.length ci, .int .i64 b, .int .i64 t] 26)
  have hk0 := Blk.new w 26 #[.slice va A.length ca, .slice vo O.length co, .slice vi I.length ci, .int .i64 b, .int .i64 t]
  have HB := Lib.hid hb0
  have HK0 := Lib.hid hk0
  have IS := Lib.hid (fun W (hW : Below w.heap.size w W) => impl_isHeyting _ _ _ b t A O I W (h.below hW) hs)
  clear hb0 hk0 h hs
  go_enter Tryz.func28, Tryz.ntmps28
  go_upto_region 1 with fail
  generalize World.alloc w _ = W at *
  have k0 := HK0.out.cell
  have l0 := HK0.out.lt
  go_wp2_with fail
  refine (IS.out _ HB.out).mono ?_
  rintro e w1 ⟨rfl, hb⟩
  have HB1 := Lib.hid (bthen HB.out hb)
  clear k0 l0 hb
  by_cases e1 : hyt A O I b t
  · have E := Lib.hid (decide_eq_true e1)
    rw [E.out]
    clear e1
    go_wp2
    go_ret
    exact ⟨by first | rfl | (rw [E.out]; rfl), HB1.out⟩
  · have E := Lib.hid (decide_eq_false e1)
    rw [E.out]
    clear e1
    go_wp2
    go_ret
    exact ⟨by first | rfl | (rw [E.out]; rfl), HB1.out⟩
/-- is a set a filter, where it is a set of elements of an algebra -/
def ifB (A O I : List (List Int)) (b t m : Int) : Bool := decide (hcd A O I b t m = 0) && decide (((flt (nsOf A) m.toNat : Nat) : Int) = m)
def foI (A O I : List (List Int)) (b t m : Int) : Int := if hcd A O I b t m = 0 then ((flt (nsOf A) m.toNat : Nat) : Int) else 0
theorem impl_filterOf_at (va vo vi : Option Addr) (ca co ci : Nat) (A O I : List (List Int)) (b t m : Int) (w : World) (h : Hy w (.slice va A.length ca) (.slice vo O.length co) (.slice vi I.length ci) A O I) (h0 : hcd A O I b t m = 0) :
    Calls Tryz.prog 63 #[.agg #[.slice va A.length ca, .slice vo O.length co, .slice vi I.length ci, .int .i64 b, .int .i64 t], .int .i64 m] w fun e w' => e = .returned (.int .i64 ((flt (nsOf A) m.toNat : Nat) : Int)) ∧ Below w.heap.size w w' := by
  obtain ⟨A1, O1, I1, b1, t1, m1, rfl, rfl, rfl, rfl, rfl, rfl, hm, hT⟩ := hcd_0 h0
  rw [nsOf_lil, Int.toNat_natCast]
  exact impl_filterOf _ _ _ A1 O1 I1 b1 t1 m1 w h hT hm
set_option maxRecDepth 100000 in
theorem impl_IsFilter (a o i : Value) (b t m : Int) (A O I : List (List Int)) (w : World) (h : Hy w a o i A O I) (hs : SzH A O I) :
    Calls Tryz.prog 21 #[.agg #[a, o, i, .int .i64 b, .int .i64 t], .int .i64 m] w fun e w' => e = .returned (.tuple #[.bool (ifB A O I b t m), .int .i64 (hcd A O I b t m)]) ∧ Below w.heap.size w w' := by
  obtain ⟨va, ca, rfl⟩ := h.a.opn
  obtain ⟨vo, co, rfl⟩ := h.o.opn
  obtain ⟨vi, ci, rfl⟩ := h.i.opn
  have hb0 := below_alloc' w (.cells #[.slice va A.length ca, .slice vo O.length co, .slice vi I.length ci, .int .i64 b, .int .i64 t] 26)
  have hk0 := Blk.new w 26 #[.slice va A.length ca, .slice vo O.length co, .slice vi I.length ci, .int .i64 b, .int .i64 t]
  have HB := Lib.hid hb0
  have HK0 := Lib.hid hk0
  have IS := Lib.hid (fun W (hW : Below w.heap.size w W) => impl_elementsCode _ _ _ b t m A O I W (h.below hW) hs)
  have FI := Lib.hid (fun W (hW : Below w.heap.size w W) (h0 : hcd A O I b t m = 0) => impl_filterOf_at va vo vi ca co ci A O I b t m W (h.below hW) h0)
  have EB : Hid (∀ z : Int, z = ((flt (nsOf A) m.toNat : Nat) : Int) → hcd A O I b t m = 0 → ifB A O I b t m = (z == m)) := Lib.hid (fun z hz h0 => by
    unfold ifB
    rw [decide_eq_true h0, Bool.true_and, hz, Bool.eq_iff_iff, decide_eq_true_eq, beq_iff_eq])
  have EN : Hid (hcd A O I b t m ≠ 0 → ifB A O I b t m = false) := Lib.hid (fun hh => by unfold ifB; rw [decide_eq_false hh, Bool.false_and])
  clear hb0 hk0 h hs
  go_enter Tryz.func21, Tryz.ntmps21
  go_upto_region 1 with fail
  generalize World.alloc w _ = W at *
  have k0 := HK0.out.cell
  have l0 := HK0.out.lt
  go_wp2_with fail
  refine (IS.out _ HB.out).mono ?_
  rintro e w1 ⟨rfl, hb⟩
  have HB1 := Lib.hid (bthen HB.out hb)
  have J0 := Lib.hid (HK0.out.below hb l0)
  clear k0 l0 hb IS
  by_cases e1 : hcd A O I b t m = 0
  · have F1 := Lib.hid (fun W hW => FI.out W hW e1)
    have E0 := Lib.hid e1
    have E2 := Lib.hid (fun z hz => EB.out z hz e1)
    rw [e1]
    clear e1 FI EB EN
    have k0 := J0.out.cell
    have l0 := J0.out.lt
    go_wp2_with fail
    refine (F1.out _ HB1.out).mono ?_
    rintro e w2 ⟨rfl, hb⟩
    have HB2 := Lib.hid (bthen HB1.out hb)
    clear k0 l0 hb
    have E3 := Lib.hid (E2.out _ rfl)
    generalize ((flt (nsOf A) m.toNat : Nat) : Int) = z at *
    clear E2
    go_wp2
    go_ret2
    exact ⟨by rw [E0.out, E3.out]; rfl, HB2.out⟩
  · have E := Lib.hid (EN.out e1)
    have q1 : (hcd A O I b t m != 0) = true := bne_iff_ne.2 e1
    obtain ⟨z, hz⟩ : ∃ z, hcd A O I b t m = z := ⟨_, rfl⟩
    have HZ := Lib.hid hz
    rw [hz] at q1 ⊢
    clear e1 FI EB EN hz
    go_wp2
    go_ret2
    exact ⟨by rw [HZ.out, E.out]; rfl, HB1.out⟩
set_option maxRecDepth 100000 in
theorem impl_FilterOf (a o i : Value) (b t m : Int) (A O I : List (List Int)) (w : World) (h : Hy w a o i A O I) (hs : SzH A O I) :
    Calls Tryz.prog 22 #[.agg #[a, o, i, .int .i64 b, .int .i64 t], .int .i64 m] w fun e w' => e = .returned (.tuple #[.int .i64 (foI A O I b t m), .int .i64 (hcd A O I b t m)]) ∧ Below w.heap.size w w' := by
  obtain ⟨va, ca, rfl⟩ := h.a.opn
  obtain ⟨vo, co, rfl⟩ := h.o.opn
  obtain ⟨vi, ci, rfl⟩ := h.i.opn
  have hb0 := below_alloc' w (.cells #[.slice va A.length ca, .slice vo O.length co, .slice vi I.length ci, .int .i64 b, .int .i64 t] 26)
  have hk0 := Blk.new w 26 #[.slice va A.length ca, .slice vo O.length co, .slice vi I.length ci, .int .i64 b, .int .i64 t]
  have HB := Lib.hid hb0
  have HK0 := Lib.hid hk0
  have IS := Lib.hid (fun W (hW : Below w.heap.size w W) => impl_elementsCode _ _ _ b t m A O I W (h.below hW) hs)
  have FI := Lib.hid (fun W (hW : Below w.heap.size w W) (h0 : hcd A O I b t m = 0) => impl_filterOf_at va vo vi ca co ci A O I b t m W (h.below hW) h0)
  have EB : Hid (hcd A O I b t m = 0 → foI A O I b t m = ((flt (nsOf A) m.toNat : Nat) : Int)) := Lib.hid (fun h0 => by unfold foI; rw [if_pos h0])
  have EN : Hid (hcd A O I b t m ≠ 0 → foI A O I b t m = 0) := Lib.hid (fun hh => by unfold foI; rw [if_neg hh])
  clear hb0 hk0 h hs
  go_enter Tryz.func22, Tryz.ntmps22
  go_upto_region 1 with fail
  generalize World.alloc w _ = W at *
  have k0 := HK0.out.cell
  have l0 := HK0.out.lt
  go_wp2_with fail
  refine (IS.out _ HB.out).mono ?_
  rintro e w1 ⟨rfl, hb⟩
  have HB1 := Lib.hid (bthen HB.out hb)
  have J0 := Lib.hid (HK0.out.below hb l0)
  clear k0 l0 hb IS
  by_cases e1 : hcd A O I b t m = 0
  · have F1 := Lib.hid (fun W hW => FI.out W hW e1)
    have E0 := Lib.hid e1
    have E2 := Lib.hid (EB.out e1)
    rw [e1]
    clear e1 FI EB EN
    have k0 := J0.out.cell
    have l0 := J0.out.lt
    go_wp2_with fail
    refine (F1.out _ HB1.out).mono ?_
    rintro e w2 ⟨rfl, hb⟩
    have HB2 := Lib.hid (bthen HB1.out hb)
    clear k0 l0 hb
    generalize ((flt (nsOf A) m.toNat : Nat) : Int) = z at *
    go_wp2
    go_ret2
    exact ⟨by rw [E0.out, E2.out]; rfl, HB2.out⟩
  · have E := Lib.hid (EN.out e1)
    have q1 : (hcd A O I b t m != 0) = true := bne_iff_ne.2 e1
    obtain ⟨z, hz⟩ : ∃ z, hcd A O I b t m = z := ⟨_, rfl⟩
    have HZ := Lib.hid hz
    rw [hz] at q1 ⊢
    clear e1 FI EB EN hz
    go_wp2
    go_ret2
    exact ⟨by rw [HZ.out, E.out]; rfl, HB1.out⟩
/-- all filters, sorted -/
def afI (A O I : List (List Int)) (b t : Int) : List Int := if hyt A O I b t then (li (nsOf A)).mergeSort fun x y => decide (x ≤ y) else []
def afC (A O I : List (List Int)) (b t : Int) : Int := if hyt A O I b t then 0 else 1
theorem impl_order_at (va vo vi : Option Addr) (ca co ci : Nat) (A O I : List (List Int)) (b t : Int) (w : World) (h : Hy w (.slice va A.length ca) (.slice vo O.length co) (.slice vi I.length ci) A O I) (h0 : hyt A O I b t) :
    Calls Tryz.prog 64 #[.agg #[.slice va A.length ca, .slice vo O.length co, .slice vi I.length ci, .int .i64 b, .int .i64 t]] w fun e w' => ∃ u, e = .returned u ∧ Ow cI 2 w.heap.size w' u (li (nsOf A)) ∧ Below w.heap.size w w' := by
  obtain ⟨A1, O1, I1, b1, t1, rfl, rfl, rfl, rfl, rfl, hT⟩ := hyt_T h0
  rw [nsOf_lil]
  exact impl_orderH _ _ _ b1 t1 A1 w h.a hT.tA hT.n30
set_option maxRecDepth 100000 in
theorem impl_AllFilters (a o i : Value) (b t : Int) (A O I : List (List Int)) (w : World) (h : Hy w a o i A O I) (hs : SzH A O I) :
    Calls Tryz.prog 23 #[.agg #[a, o, i, .int .i64 b, .int .i64 t]] w fun e w' => ∃ u, e = .returned (.tuple #[u, .int .i64 (afC A O I b t)]) ∧ Sl cI w' u (afI A O I b t) ∧ Below w.heap.size w w' := by
  obtain ⟨va, ca, rfl⟩ := h.a.opn
  obtain ⟨vo, co, rfl⟩ := h.o.opn
  obtain ⟨vi, ci, rfl⟩ := h.i.opn
  have hb0 := below_alloc' w (.cells #[.slice va A.length ca, .slice vo O.length co, .slice vi I.length ci, .int .i64 b, .int .i64 t] 26)
  have hk0 := Blk.new w 26 #[.slice va A.length ca, .slice vo O.length co, .slice vi I.length ci, .int .i64 b, .int .i64 t]
  have HB := Lib.hid hb0
  have HK0 := Lib.hid hk0
  have IS := Lib.hid (fun W (hW : Below w.heap.size w W) => impl_isHeyting _ _ _ b t A O I W (h.below hW) hs)
  have FI := Lib.hid (fun W (hW : Below w.heap.size w W) (h0 : hyt A O I b t) => impl_order_at va vo vi ca co ci A O I b t W (h.below hW) h0)
  have EL : Hid (hyt A O I b t → (li (nsOf A)).length ≤ 30) := Lib.hid (fun h0 => by
    obtain ⟨A1, O1, I1, b1, t1, rfl, rfl, rfl, rfl, rfl, hT⟩ := hyt_T h0
    rw [nsOf_lil, li_length, ordH_length]
    exact hT.n30)
  have EB : Hid (hyt A O I b t → afI A O I b t = ((li (nsOf A)).mergeSort fun x y => decide (x ≤ y)) ∧ afC A O I b t = 0) := Lib.hid (fun h0 => by unfold afI afC; rw [if_pos h0, if_pos h0]; exact ⟨rfl, rfl⟩)
  have EN : Hid (¬ hyt A O I b t → afI A O I b t = [] ∧ afC A O I b t = 1) := Lib.hid (fun hh => by unfold afI afC; rw [if_neg hh, if_neg hh]; exact ⟨rfl, rfl⟩)
  clear hb0 hk0 h hs
  go_enter Tryz.func23, Tryz.ntmps23
  go_upto_region 1 with fail
  generalize World.alloc w _ = W at *
  have k0 := HK0.out.cell
  have l0 := HK0.out.lt
  go_wp2_with fail
  refine (IS.out _ HB.out).mono ?_
  rintro e w1 ⟨rfl, hb⟩
  have HB1 := Lib.hid (bthen HB.out hb)
  have J0 := Lib.hid (HK0.out.below hb l0)
  clear k0 l0 hb IS
  by_cases e1 : hyt A O I b t
  · have F1 := Lib.hid (fun W hW => FI.out W hW e1)
    have E2 := Lib.hid (EB.out e1)
    have E3 := EL.out e1
    rw [decide_eq_true e1]
    clear e1 FI EB EN EL
    generalize li (nsOf A) = L at *
    have k0 := J0.out.cell
    have l0 := J0.out.lt
    go_wp2_with fail
    refine (F1.out _ HB1.out).mono ?_
    rintro e w2 ⟨u, rfl, ho, hb⟩
    have HB2 := Lib.hid (bthen HB1.out hb)
    have HO := Lib.hid (ho.mono HB1.out.size)
    obtain ⟨vu, cu, rfl⟩ := ho.opn
    clear k0 l0 hb ho
    go_wp2_with fail
    refine (slices_Sort _ L w.heap.size w2 HO.out (by omega)).mono ?_
    rintro e w3 ⟨rfl, ho, hb⟩
    have HB3 := Lib.hid (HB2.out.trans hb)
    have HO3 := Lib.hid ho.sl
    clear ho hb
    go_wp2
    go_ret2
    exact ⟨_, by rw [E2.out.2]; rfl, by rw [E2.out.1]; exact HO3.out, HB3.out⟩
  · have E := Lib.hid (EN.out e1)
    rw [decide_eq_false e1]
    clear e1 FI EB EN EL
    go_wp2
    go_ret2
    exact ⟨_, by rw [E.out.2]; rfl, by rw [E.out.1]; exact Sl.nil, HB1.out⟩
end Go.Proofs.YtgkogfjifcfkoaaGreat

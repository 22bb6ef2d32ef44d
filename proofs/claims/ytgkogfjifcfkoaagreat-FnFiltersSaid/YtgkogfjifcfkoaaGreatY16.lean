/- Heyting algebras, of the reference: l18Same, l18Is, l19Code; what a Heyting algebra is, in plain words. -/
import Derived.Test.YtgkogfjifcfkoaaGreatY15
namespace Go.Proofs.YtgkogfjifcfkoaaGreat
open Go.RowKit
set_option linter.unusedVariables false
set_option linter.unusedSimpArgs false
/-- three tables in memory -/
structure Hy (w : World) (a o i : Value) (A O I : List (List Int)) : Prop where
  a : Sl2 cI w a A
  o : Sl2 cI w o O
  i : Sl2 cI w i I
theorem Hy.below {w w' : World} {a o i : Value} {A O I : List (List Int)} (h : Hy w a o i A O I) (hb : Below w.heap.size w w') : Hy w' a o i A O I := ⟨h.a.below hb, h.o.below hb, h.i.below hb⟩
/-- a table of tolerable size -/
structure SzT (X : List (List Int)) : Prop where
  l : X.length ≤ 1048576
  r : ∀ r ∈ X, r.length ≤ 1048576
structure SzH (A O I : List (List Int)) : Prop where
  a : SzT A
  o : SzT O
  i : SzT I
theorem tabI_sz (f : Nat → Nat → Int) (n k : Nat) (hn : n ≤ 30) (hk : k ≤ 30) : SzT (tabI f n k) := by
  refine ⟨by rw [tabI_length]; omega, fun r hr => ?_⟩
  obtain ⟨i, hi, rfl⟩ := List.mem_iff_getElem.1 hr
  rw [tabI_get, rowI_length]; omega
/-- the order of an algebra -/
def nsOf (A : List (List Int)) : List Nat := ordH (A.map fun r => r.map Int.toNat)
theorem nsOf_lil (A : List (List Nat)) : nsOf (lil A) = ordH A := by
  unfold nsOf lil
  rw [List.map_map]
  congr 1
  conv => rhs; rw [← List.map_id A]
  refine List.map_congr_left fun r _ => ?_
  show (r.map fun (i : Nat) => (i : Int)).map Int.toNat = id r
  rw [List.map_map]
  exact (List.map_congr_left fun x _ => rfl).trans (List.map_id r)
/-- a Heyting algebra -/
def hyt (A O I : List (List Int)) (b t : Int) : Prop :=
  inR A.length 1 30 = true ∧ tbH A.length A = true ∧ tbH A.length O = true ∧ tbH A.length I = true ∧ hbOk (nsOf A) ∧
    A = tabI (fA (nsOf A)) A.length A.length ∧ O = tabI (fO (nsOf A)) A.length A.length ∧ I = tabI (fI (nsOf A)) A.length A.length ∧ b = botI (nsOf A) ∧ t = topI (nsOf A)
instance (A O I : List (List Int)) (b t : Int) : Decidable (hyt A O I b t) := by unfold hyt; exact inferInstance
/-- a Heyting algebra, in natural numbers -/
structure HyT (A O I : List (List Nat)) (b t : Nat) : Prop where
  n1 : 1 ≤ A.length
  n30 : A.length ≤ 30
  tA : TabN A.length A
  tO : TabN A.length O
  tI : TabN A.length I
  ha : HA (ordH A)
  eA : ∀ x y, x < A.length → y < A.length → fA (ordH A) x y = (ent A x y : Nat)
  eO : ∀ x y, x < A.length → y < A.length → fO (ordH A) x y = (ent O x y : Nat)
  eI : ∀ x y, x < A.length → y < A.length → fI (ordH A) x y = (ent I x y : Nat)
  eb : botI (ordH A) = (b : Nat)
  et : topI (ordH A) = (t : Nat)
  bl : b < A.length
  tl : t < A.length
theorem ent_of {n : Nat} {A : List (List Nat)} {f : Nat → Nat → Int} (hT : TabN n A) (h : lil A = tabI f n n) {x y : Nat} (hx : x < n) (hy : y < n) : f x y = (ent A x y : Nat) := by
  have h1 : (lil A)[x]'(by rw [lil_length, hT.l]; exact hx) = (tabI f n n)[x]'(by rw [tabI_length]; exact hx) := by simp only [h]
  rw [lil_get, tabI_get] at h1
  have hm := hT.r _ (List.getElem_mem (show x < A.length by rw [hT.l]; exact hx))
  have h2 : (li (A[x]'(by rw [hT.l]; exact hx)))[y]'(by rw [li_length, hm.1]; exact hy) = (rowI f x n)[y]'(by rw [rowI_length]; exact hy) := by simp only [h1]
  rw [li_get, rowI_get] at h2
  rw [← h2]
  unfold ent
  rw [List.getD_eq_getElem?_getD (l := A), List.getElem?_eq_getElem (show x < A.length by rw [hT.l]; exact hx)]
  rfl
theorem hyt_T {A O I : List (List Int)} {b t : Int} (h : hyt A O I b t) : ∃ (A1 O1 I1 : List (List Nat)) (b1 t1 : Nat), A = lil A1 ∧ O = lil O1 ∧ I = lil I1 ∧ b = b1 ∧ t = t1 ∧ HyT A1 O1 I1 b1 t1 := by
  obtain ⟨h0, h1, h2, h3, h4, h5, h6, h7, h8, h9⟩ := h
  obtain ⟨A1, rfl, tA⟩ := tbH_iff h1
  obtain ⟨O1, rfl, tO⟩ := tbH_iff h2
  obtain ⟨I1, rfl, tI⟩ := tbH_iff h3
  rw [nsOf_lil] at h4 h5 h6 h7 h8 h9
  rw [lil_length] at h0 tA tO tI h5 h6 h7
  have hn := inR_iff.1 h0
  have hr := ordH_rel (A := A1) (by omega)
  have ha := hb_HA hr h4
  obtain ⟨b1, eb, bl, -⟩ := ha.b
  obtain ⟨t1, et, tl, -⟩ := ha.t
  rw [ordH_length] at bl tl
  exact ⟨A1, O1, I1, b1, t1, rfl, rfl, rfl, by rw [h8, eb], by rw [h9, et], by omega, by omega, tA, tO, tI, ha, fun x y hx hy => ent_of tA h5 hx hy, fun x y hx hy => ent_of tO h6 hx hy, fun x y hx hy => ent_of tI h7 hx hy, eb, et, bl, tl⟩
set_option maxRecDepth 100000 in
theorem spec_l18Same (a o i a' o' i' : Value) (b t b' t' : Int) (A O I A' O' I' : List (List Int)) (w : World) (h : Hy w a o i A O I) (h' : Hy w a' o' i' A' O' I') (hs : SzH A O I) (hs' : SzH A' O' I') :
    Calls Tryz.prog 114 #[.agg #[a, o, i, .int .i64 b, .int .i64 t], .agg #[a', o', i', .int .i64 b', .int .i64 t']] w
      fun e w' => e = .returned (.bool (decide (A = A' ∧ O = O' ∧ I = I' ∧ b = b' ∧ t = t'))) ∧ Below w.heap.size w w' := by
  obtain ⟨va, ca, rfl⟩ := h.a.opn
  obtain ⟨vo, co, rfl⟩ := h.o.opn
  obtain ⟨vi, ci, rfl⟩ := h.i.opn
  obtain ⟨va', ca', rfl⟩ := h'.a.opn
  obtain ⟨vo', co', rfl⟩ := h'.o.opn
  obtain ⟨vi', ci', rfl⟩ := h'.i.opn
  have hb0 := below_alloc' w (.cells #[.slice va A.length ca, .slice vo O.length co, .slice vi I.length ci, .int .i64 b, .int .i64 t] 26)
  have hk0 := Blk.new w 26 #[.slice va A.length ca, .slice vo O.length co, .slice vi I.length ci, .int .i64 b, .int .i64 t]
  have hb1 := below_alloc' (w.alloc (.cells #[.slice va A.length ca, .slice vo O.length co, .slice vi I.length ci, .int .i64 b, .int .i64 t] 26)) (.cells #[.slice va' A'.length ca', .slice vo' O'.length co', .slice vi' I'.length ci', .int .i64 b', .int .i64 t'] 26)
  have hk1 : Blk _ (w.heap.size + 1) _ _ := Blk.new' (w.alloc (.cells #[.slice va A.length ca, .slice vo O.length co, .slice vi I.length ci, .int .i64 b, .int .i64 t] 26)) 26 #[.slice va' A'.length ca', .slice vo' O'.length co', .slice vi' I'.length ci', .int .i64 b', .int .i64 t'] (by simp)
  have HB := Lib.hid (bthen hb0 hb1)
  have HK0 := Lib.hid (hk0.below hb1 hk0.lt)
  have HK1 := Lib.hid hk1
  have S1 := Lib.hid (fun W (hW : Below w.heap.size w W) => spec_l01Same2 _ _ A A' W (h.a.below hW) (h'.a.below hW) hs.a.l hs'.a.l hs.a.r hs'.a.r)
  have S2 := Lib.hid (fun W (hW : Below w.heap.size w W) => spec_l01Same2 _ _ O O' W (h.o.below hW) (h'.o.below hW) hs.o.l hs'.o.l hs.o.r hs'.o.r)
  have S3 := Lib.hid (fun W (hW : Below w.heap.size w W) => spec_l01Same2 _ _ I I' W (h.i.below hW) (h'.i.below hW) hs.i.l hs'.i.l hs.i.r hs'.i.r)
  clear hb0 hb1 hk0 hk1 h h' hs hs'
  go_enter Tryz.func114, Tryz.ntmps114
  go_upto_region 1 with fail
  generalize World.alloc (w.alloc _) _ = W at *
  have k0 := HK0.out.cell
  have k1 := HK1.out.cell
  have l0 := HK0.out.lt
  have l1 := HK1.out.lt
  go_wp2_with fail
  refine (S1.out _ HB.out).mono ?_
  rintro e w1 ⟨rfl, hb⟩
  have HB1 := Lib.hid (bthen HB.out hb)
  have J0 := Lib.hid (HK0.out.below hb l0)
  have J1 := Lib.hid (HK1.out.below hb l1)
  clear k0 k1 l0 l1 hb
  by_cases e1 : A = A'
  rotate_left
  · have E : Hid (decide (A = A' ∧ O = O' ∧ I = I' ∧ b = b' ∧ t = t') = false) := Lib.hid (decide_eq_false fun hh => e1 hh.1)
    rw [decide_eq_false e1]
    clear e1
    go_wp2
    go_ret
    exact ⟨by rw [E.out]; rfl, HB1.out⟩
  have E1 := Lib.hid e1
  rw [decide_eq_true e1]
  clear e1
  have k0 := J0.out.cell
  have k1 := J1.out.cell
  have l0 := J0.out.lt
  have l1 := J1.out.lt
  go_wp2_with fail
  refine (S2.out _ HB1.out).mono ?_
  rintro e w2 ⟨rfl, hb⟩
  have HB2 := Lib.hid (bthen HB1.out hb)
  have M0 := Lib.hid (J0.out.below hb l0)
  have M1 := Lib.hid (J1.out.below hb l1)
  clear k0 k1 l0 l1 hb
  by_cases e1 : O = O'
  rotate_left
  · have E : Hid (decide (A = A' ∧ O = O' ∧ I = I' ∧ b = b' ∧ t = t') = false) := Lib.hid (decide_eq_false fun hh => e1 hh.2.1)
    rw [decide_eq_false e1]
    clear e1
    go_wp2
    go_ret
    exact ⟨by rw [E.out]; rfl, HB2.out⟩
  have E2 := Lib.hid e1
  rw [decide_eq_true e1]
  clear e1
  have k0 := M0.out.cell
  have k1 := M1.out.cell
  have l0 := M0.out.lt
  have l1 := M1.out.lt
  go_wp2_with fail
  refine (S3.out _ HB2.out).mono ?_
  rintro e w3 ⟨rfl, hb⟩
  have HB3 := Lib.hid (bthen HB2.out hb)
  have N0 := Lib.hid (M0.out.below hb l0)
  have N1 := Lib.hid (M1.out.below hb l1)
  clear k0 k1 l0 l1 hb
  by_cases e1 : I = I'
  rotate_left
  · have E : Hid (decide (A = A' ∧ O = O' ∧ I = I' ∧ b = b' ∧ t = t') = false) := Lib.hid (decide_eq_false fun hh => e1 hh.2.2.1)
    rw [decide_eq_false e1]
    clear e1
    go_wp2
    go_ret
    exact ⟨by rw [E.out]; rfl, HB3.out⟩
  have E3 := Lib.hid e1
  rw [decide_eq_true e1]
  clear e1
  have k0 := N0.out.cell
  have k1 := N1.out.cell
  have l0 := N0.out.lt
  have l1 := N1.out.lt
  by_cases e1 : b = b'
  rotate_left
  · have E : Hid (decide (A = A' ∧ O = O' ∧ I = I' ∧ b = b' ∧ t = t') = false) := Lib.hid (decide_eq_false fun hh => e1 hh.2.2.2.1)
    have q1 : (b == b') = false := beq_eq_false_iff_ne.2 e1
    clear e1
    go_wp2
    go_ret
    exact ⟨by rw [E.out]; rfl, HB3.out⟩
  have E4 := Lib.hid e1
  have q1 : (b == b') = true := beq_iff_eq.2 e1
  clear e1
  by_cases e1 : t = t'
  · have E : Hid (decide (A = A' ∧ O = O' ∧ I = I' ∧ b = b' ∧ t = t') = true) := Lib.hid (decide_eq_true ⟨E1.out, E2.out, E3.out, E4.out, e1⟩)
    have q2 : (t == t') = true := beq_iff_eq.2 e1
    clear e1
    go_wp2
    go_ret
    exact ⟨by rw [E.out]; rfl, HB3.out⟩
  · have E : Hid (decide (A = A' ∧ O = O' ∧ I = I' ∧ b = b' ∧ t = t') = false) := Lib.hid (decide_eq_false fun hh => e1 hh.2.2.2.2)
    have q2 : (t == t') = false := beq_eq_false_iff_ne.2 e1
    clear e1
    go_wp2
    go_ret
    exact ⟨by rw [E.out]; rfl, HB3.out⟩
set_option maxHeartbeats 1000000 in
set_option maxRecDepth 100000 in
theorem spec_l18Is (a o i : Value) (b t : Int) (A O I : List (List Int)) (w : World) (h : Hy w a o i A O I) (hs : SzH A O I) :
    Calls Tryz.prog 68 #[.agg #[a, o, i, .int .i64 b, .int .i64 t]] w fun e w' => e = .returned (.bool (decide (hyt A O I b t))) ∧ Below w.heap.size w w' := by
  obtain ⟨va, ca, rfl⟩ := h.a.opn
  obtain ⟨vo, co, rfl⟩ := h.o.opn
  obtain ⟨vi, ci, rfl⟩ := h.i.opn
  have hb0 := below_alloc' w (.cells #[.slice va A.length ca, .slice vo O.length co, .slice vi I.length ci, .int .i64 b, .int .i64 t] 26)
  have hk0 := Blk.new w 26 #[.slice va A.length ca, .slice vo O.length co, .slice vi I.length ci, .int .i64 b, .int .i64 t]
  have HB := Lib.hid hb0
  have HK0 := Lib.hid hk0
  have HH := Lib.hid (fun W (hW : Below w.heap.size w W) => h.below hW)
  have HZ := Lib.hid hs
  have la := hs.a.l
  have SZ := Lib.hid (fun W (hW : Below w.heap.size w W) => spec_l18Size _ (.slice vo O.length co) (.slice vi I.length ci) b t A W (h.a.below hW))
  have T1 := Lib.hid (fun W (hW : Below w.heap.size w W) => spec_l18Table _ A A.length W (h.a.below hW) hs.a.l hs.a.r (by omega))
  have T2 := Lib.hid (fun W (hW : Below w.heap.size w W) => spec_l18Table _ O A.length W (h.o.below hW) hs.o.l hs.o.r (by omega))
  have T3 := Lib.hid (fun W (hW : Below w.heap.size w W) => spec_l18Table _ I A.length W (h.i.below hW) hs.i.l hs.i.r (by omega))
  clear hb0 hk0 h hs
  go_enter Tryz.func68, Tryz.ntmps68
  go_upto_region 1 with fail
  generalize World.alloc w _ = W at *
  have k0 := HK0.out.cell
  have l0 := HK0.out.lt
  go_wp2_with fail
  refine (SZ.out _ HB.out).mono ?_
  rintro e w1 ⟨rfl, hb⟩
  have HB1 := Lib.hid (bthen HB.out hb)
  have J0 := Lib.hid (HK0.out.below hb l0)
  clear k0 l0 hb
  have k0 := J0.out.cell
  have l0 := J0.out.lt
  have EF0 : Hid (inR A.length 1 30 = false → decide (hyt A O I b t) = false) := Lib.hid (fun hh => decide_eq_false fun h9 => by rw [h9.1] at hh; cases hh)
  have EF1 : Hid (tbH A.length A = false → decide (hyt A O I b t) = false) := Lib.hid (fun hh => decide_eq_false fun h9 => by rw [h9.2.1] at hh; cases hh)
  have EF2 : Hid (tbH A.length O = false → decide (hyt A O I b t) = false) := Lib.hid (fun hh => decide_eq_false fun h9 => by rw [h9.2.2.1] at hh; cases hh)
  have EF3 : Hid (tbH A.length I = false → decide (hyt A O I b t) = false) := Lib.hid (fun hh => decide_eq_false fun h9 => by rw [h9.2.2.2.1] at hh; cases hh)
  go_wp2_with fail
  refine (spec_l01In _ _ _ _).mono ?_
  rintro e _ ⟨rfl, rfl⟩
  cases e1 : inR A.length 1 30
  · have E := Lib.hid (EF0.out e1)
    clear e1
    go_wp2
    go_ret
    exact ⟨by rw [E.out]; rfl, HB1.out⟩
  have R1 := Lib.hid e1
  clear e1
  go_wp2_with fail
  refine (T1.out _ HB1.out).mono ?_
  rintro e _ ⟨rfl, rfl⟩
  cases e1 : tbH A.length A
  · have E := Lib.hid (EF1.out e1)
    clear e1
    go_wp2
    go_ret
    exact ⟨by rw [E.out]; rfl, HB1.out⟩
  have R2 := Lib.hid e1
  clear e1
  go_wp2_with fail
  refine (T2.out _ HB1.out).mono ?_
  rintro e _ ⟨rfl, rfl⟩
  cases e1 : tbH A.length O
  · have E := Lib.hid (EF2.out e1)
    clear e1
    go_wp2
    go_ret
    exact ⟨by rw [E.out]; rfl, HB1.out⟩
  have R3 := Lib.hid e1
  clear e1
  go_wp2_with fail
  refine (T3.out _ HB1.out).mono ?_
  rintro e _ ⟨rfl, rfl⟩
  cases e1 : tbH A.length I
  · have E := Lib.hid (EF3.out e1)
    clear e1
    go_wp2
    go_ret
    exact ⟨by rw [E.out]; rfl, HB1.out⟩
  have R4 := Lib.hid e1
  clear e1
  obtain ⟨A1, hA1, tA⟩ := tbH_iff R2.out
  subst hA1
  have hn := inR_iff.1 R1.out
  have LL := Lib.hid (lil_length A1)
  rw [LL.out] at tA hn
  have HNS := Lib.hid (nsOf_lil A1)
  have OR := Lib.hid (fun W (hW : Below w.heap.size w W) => spec_l18Order _ (.slice vo O.length co) (.slice vi I.length ci) b t A1 A1.length W (HH.out W hW).a tA (by omega))
  have BU := Lib.hid (fun v W (hW : Sl cI W v (li (ordH A1))) => spec_l18Build v (ordH A1) W hW (ordH_rel (by omega)))
  have OL := Lib.hid (ordH_length A1)
  have EQ : Hid (∀ (q : hbOk (ordH A1)), decide (lil A1 = tabI (fA (ordH A1)) (ordH A1).length (ordH A1).length ∧ O = tabI (fO (ordH A1)) (ordH A1).length (ordH A1).length ∧ I = tabI (fI (ordH A1)) (ordH A1).length (ordH A1).length ∧ b = botI (ordH A1) ∧ t = topI (ordH A1)) = decide (hyt (lil A1) O I b t)) := Lib.hid (fun q => by
    rw [Bool.eq_iff_iff, decide_eq_true_eq, decide_eq_true_eq]
    unfold hyt
    rw [HNS.out, OL.out]
    have l1 := R1.out
    have l2 := R2.out
    have l3 := R3.out
    have l4 := R4.out
    rw [LL.out] at l1 l2 l3 l4 ⊢
    exact ⟨fun hh => ⟨l1, l2, l3, l4, q, hh⟩, fun hh => hh.2.2.2.2.2⟩)
  have EN : Hid (¬ hbOk (ordH A1) → decide (hyt (lil A1) O I b t) = false) := Lib.hid (fun q => decide_eq_false fun h9 => q (by rw [← HNS.out]; exact h9.2.2.2.2.1))
  clear EF0 EF1 EF2 EF3 tA T1 T2 T3 SZ
  go_wp2_with fail
  refine (OR.out _ HB1.out).mono ?_
  rintro e w2 ⟨u, rfl, ho, hb⟩
  have HB2 := Lib.hid (bthen HB1.out hb)
  have M0 := Lib.hid (J0.out.below hb l0)
  have HU := Lib.hid ho.sl
  clear k0 l0 hb ho
  have k0 := M0.out.cell
  have l0 := M0.out.lt
  obtain ⟨vu, cu, rfl⟩ := HU.out.opn
  go_wp2_with fail
  refine (BU.out _ _ HU.out).mono ?_
  rintro e w3 (⟨hno, rfl, hb⟩ | ⟨hyes, a2, o2, i2, rfl, ha2, ho2, hi2, hb⟩)
  · have HB3 := Lib.hid (bthen HB2.out hb)
    have E := Lib.hid (EN.out hno)
    have N0 := Lib.hid (M0.out.below hb l0)
    clear k0 l0 hb hno
    have k0 := N0.out.cell
    have l0 := N0.out.lt
    go_upto_region 5 with fail
    have hbx := below_alloc' w3 (.cells #[.slice none 0 0, .slice none 0 0, .slice none 0 0, .int .i64 0, .int .i64 0] 26)
    have HB4 := Lib.hid (bthen HB3.out hbx)
    clear hbx k0 l0
    generalize World.alloc w3 _ = w4 at *
    go_wp2
    go_ret
    exact ⟨by rw [E.out]; rfl, HB4.out⟩
  · have HB3 := Lib.hid (bthen HB2.out hb)
    have N0 := Lib.hid (M0.out.below hb l0)
    obtain ⟨xa, ya, rfl⟩ := ha2.opn
    obtain ⟨xo, yo, rfl⟩ := ho2.opn
    obtain ⟨xi, yi, rfl⟩ := hi2.opn
    have H2 : Hid (Hy w3 _ _ _ _ _ _) := Lib.hid ⟨ha2, ho2, hi2⟩
    have E := Lib.hid (EQ.out hyes)
    have hz : (ordH A1).length ≤ 30 := by rw [OL.out]; omega
    have HZ2 : Hid (SzH _ _ _) := Lib.hid ⟨tabI_sz (fA (ordH A1)) (ordH A1).length (ordH A1).length hz hz, tabI_sz (fO (ordH A1)) (ordH A1).length (ordH A1).length hz hz, tabI_sz (fI (ordH A1)) (ordH A1).length (ordH A1).length hz hz⟩
    have SM := Lib.hid (fun W (hW : Below w.heap.size w W) (h2 : Below w3.heap.size w3 W) => spec_l18Same _ _ _ _ _ _ b t (botI (ordH A1)) (topI (ordH A1)) _ _ _ _ _ _ W (HH.out W hW) (H2.out.below h2) HZ.out HZ2.out)
    rw [E.out] at SM
    rw [tabI_length, tabI_length, tabI_length] at SM
    rw [tabI_length, tabI_length, tabI_length]
    generalize botI (ordH A1) = bt at *
    generalize topI (ordH A1) = tp at *
    generalize (ordH A1).length = nn at *
    clear k0 l0 hb ha2 ho2 hi2 hyes EQ EN H2 HZ2 E BU OR hz
    have k0 := N0.out.cell
    have l0 := N0.out.lt
    go_upto_region 5 with fail
    have hbx := below_alloc' w3 (.cells #[.slice xa nn ya, .slice xo nn yo, .slice xi nn yi, .int .i64 bt, .int .i64 tp] 26)
    have hky := Blk.new w3 26 #[.slice xa nn ya, .slice xo nn yo, .slice xi nn yi, .int .i64 bt, .int .i64 tp]
    have HB4 := Lib.hid (bthen HB3.out hbx)
    have HX4 := Lib.hid hbx
    have P0 := Lib.hid (N0.out.below hbx l0)
    have P1 := Lib.hid hky
    clear hbx k0 l0 hky
    generalize World.alloc w3 _ = w4 at *
    have k0 := P0.out.cell
    have l0 := P0.out.lt
    have k1 := P1.out.cell
    have l1 := P1.out.lt
    go_wp2_with fail
    refine (SM.out _ HB4.out HX4.out).mono ?_
    rintro e w5 ⟨rfl, hb⟩
    have HB5 := Lib.hid (bthen HB4.out hb)
    clear k0 l0 k1 l1 hb
    go_wp2
    go_ret
    exact ⟨rfl, HB5.out⟩
end Go.Proofs.YtgkogfjifcfkoaaGreat

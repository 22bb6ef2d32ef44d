/- Joined of several texts: 18T, 18U. -/
import Derived.Test.YtgkogfjifcfkoaaGreatY24
namespace Go.Proofs.YtgkogfjifcfkoaaGreat
open Go.RowKit
set_option linter.unusedVariables false
set_option linter.unusedSimpArgs false
/- Heyting algebras, of the program: isHeyting, elementsCode, filterOf, filterCode, congruence, CongruenceOfFilter; the reference's CongruenceOfFilter. -/
theorem eqL_tab {A : List (List Int)} {n : Nat} (f : Nat → Nat → Int) (h : tbH n A = true) (hn : n ≤ 30) : EqL A (tabI f n n) := by
  unfold tbH at h
  rw [Bool.and_eq_true, decide_eq_true_eq, List.all_eq_true] at h
  have hl : A.length = n := by omega
  refine ⟨by omega, by rw [tabI_length, hl], fun i a b => ?_⟩
  have := h.2 _ (List.getElem_mem a)
  unfold rowOk at this
  rw [Bool.and_eq_true, decide_eq_true_eq] at this
  rw [tabI_get, rowI_length]
  omega
set_option maxHeartbeats 1000000 in
set_option maxRecDepth 100000 in
theorem impl_isHeyting (a o i : Value) (b t : Int) (A O I : List (List Int)) (w : World) (h : Hy w a o i A O I) (hs : SzH A O I) :
    Calls Tryz.prog 51 #[.agg #[a, o, i, .int .i64 b, .int .i64 t]] w fun e w' => e = .returned (.bool (decide (hyt A O I b t))) ∧ Below w.heap.size w w' := by
  obtain ⟨va, ca, rfl⟩ := h.a.opn
  obtain ⟨vo, co, rfl⟩ := h.o.opn
  obtain ⟨vi, ci, rfl⟩ := h.i.opn
  have hb0 := below_alloc' w (.cells #[.slice va A.length ca, .slice vo O.length co, .slice vi I.length ci, .int .i64 b, .int .i64 t] 26)
  have hk0 := Blk.new w 26 #[.slice va A.length ca, .slice vo O.length co, .slice vi I.length ci, .int .i64 b, .int .i64 t]
  have HB := Lib.hid hb0
  have HK0 := Lib.hid hk0
  have HH := Lib.hid (fun W (hW : Below w.heap.size w W) => h.below hW)
  have la := hs.a.l
  have SZ := Lib.hid (fun W (hW : Below w.heap.size w W) => impl_Hsize _ (.slice vo O.length co) (.slice vi I.length ci) b t A W (h.a.below hW))
  have T1 := Lib.hid (fun W (hW : Below w.heap.size w W) => impl_isTable _ (.slice vo O.length co) (.slice vi I.length ci) _ b t A A W (h.a.below hW) (h.a.below hW) hs.a.l hs.a.r)
  have T2 := Lib.hid (fun W (hW : Below w.heap.size w W) => impl_isTable _ (.slice vo O.length co) (.slice vi I.length ci) _ b t A O W (h.a.below hW) (h.o.below hW) hs.o.l hs.o.r)
  have T3 := Lib.hid (fun W (hW : Below w.heap.size w W) => impl_isTable _ (.slice vo O.length co) (.slice vi I.length ci) _ b t A I W (h.a.below hW) (h.i.below hW) hs.i.l hs.i.r)
  clear hb0 hk0 h hs
  go_enter Tryz.func51, Tryz.ntmps51
  go_upto_region 1 with fail
  generalize World.alloc w _ = W at *
  have k0 := HK0.out.cell
  have l0 := HK0.out.lt
  go_wp2_with fail
  refine (SZ.out _ HB.out).mono ?_
  rintro e w1 ⟨rfl, hb⟩
  have HB1 := Lib.hid (bthen HB.out hb)
  have J0 := Lib.hid (HK0.out.below hb l0)
  clear k0 l0 hb
  have k0 := J0.out.cell
  have l0 := J0.out.lt
  have EF0 : Hid (inR A.length 1 30 = false → decide (hyt A O I b t) = false) := Lib.hid (fun hh => decide_eq_false fun h9 => by rw [h9.1] at hh; cases hh)
  have EF1 : Hid (tbH A.length A = false → decide (hyt A O I b t) = false) := Lib.hid (fun hh => decide_eq_false fun h9 => by rw [h9.2.1] at hh; cases hh)
  have EF2 : Hid (tbH A.length O = false → decide (hyt A O I b t) = false) := Lib.hid (fun hh => decide_eq_false fun h9 => by rw [h9.2.2.1] at hh; cases hh)
  have EF3 : Hid (tbH A.length I = false → decide (hyt A O I b t) = false) := Lib.hid (fun hh => decide_eq_false fun h9 => by rw [h9.2.2.2.1] at hh; cases hh)
  go_wp2_with fail
  refine (impl_inRange _ _ _ _).mono ?_
  rintro e _ ⟨rfl, rfl⟩
  cases e1 : inR A.length 1 30
  · have E := Lib.hid (EF0.out e1)
    clear e1
    go_wp2
    go_ret
    exact ⟨by rw [E.out]; rfl, HB1.out⟩
  have R1 := Lib.hid e1
  clear e1
  go_wp2_with fail
  refine (T1.out _ HB1.out).mono ?_
  rintro e w2 ⟨rfl, hb⟩
  have HB2 := Lib.hid (bthen HB1.out hb)
  have J1 := Lib.hid (J0.out.below hb l0)
  clear k0 l0 hb
  have k0 := J1.out.cell
  have l0 := J1.out.lt
  cases e1 : tbH A.length A
  · have E := Lib.hid (EF1.out e1)
    clear e1
    go_wp2
    go_ret
    exact ⟨by rw [E.out]; rfl, HB2.out⟩
  have R2 := Lib.hid e1
  clear e1
  go_wp2_with fail
  refine (T2.out _ HB2.out).mono ?_
  rintro e w3 ⟨rfl, hb⟩
  have HB3 := Lib.hid (bthen HB2.out hb)
  have J2 := Lib.hid (J1.out.below hb l0)
  clear k0 l0 hb
  have k0 := J2.out.cell
  have l0 := J2.out.lt
  cases e1 : tbH A.length O
  · have E := Lib.hid (EF2.out e1)
    clear e1
    go_wp2
    go_ret
    exact ⟨by rw [E.out]; rfl, HB3.out⟩
  have R3 := Lib.hid e1
  clear e1
  go_wp2_with fail
  refine (T3.out _ HB3.out).mono ?_
  rintro e w4 ⟨rfl, hb⟩
  have HB4 := Lib.hid (bthen HB3.out hb)
  have J3 := Lib.hid (J2.out.below hb l0)
  clear k0 l0 hb
  have k0 := J3.out.cell
  have l0 := J3.out.lt
  cases e1 : tbH A.length I
  · have E := Lib.hid (EF3.out e1)
    clear e1
    go_wp2
    go_ret
    exact ⟨by rw [E.out]; rfl, HB4.out⟩
  have R4 := Lib.hid e1
  clear e1
  obtain ⟨A1, hA1, tA⟩ := tbH_iff R2.out
  subst hA1
  have hn := inR_iff.1 R1.out
  have LL := Lib.hid (lil_length A1)
  rw [LL.out] at tA hn
  have HNS := Lib.hid (nsOf_lil A1)
  have OR := Lib.hid (fun W (hW : Below w.heap.size w W) => impl_orderH _ (.slice vo O.length co) (.slice vi I.length ci) b t A1 W (HH.out W hW).a tA (by omega))
  have hrel := ordH_rel (A := A1) (by omega)
  have BU := Lib.hid (fun v W (hW : Sl cI W v (li (ordH A1))) => impl_heytingOf v (ordH A1) W hW hrel)
  have OL := Lib.hid (ordH_length A1)
  have HP := Lib.hid (hpOk_iff hrel)
  have EQ : Hid (∀ (q : hbOk (ordH A1)), decide (lil A1 = tabI (fA (ordH A1)) (ordH A1).length (ordH A1).length ∧ O = tabI (fO (ordH A1)) (ordH A1).length (ordH A1).length ∧ I = tabI (fI (ordH A1)) (ordH A1).length (ordH A1).length ∧ b = botI (ordH A1) ∧ t = topI (ordH A1)) = decide (hyt (lil A1) O I b t)) := Lib.hid (fun q => by
    rw [Bool.eq_iff_iff, decide_eq_true_eq, decide_eq_true_eq]
    unfold hyt
    rw [HNS.out, OL.out]
    have l1 := R1.out
    have l2 := R2.out
    have l3 := R3.out
    have l4 := R4.out
    rw [LL.out] at l1 l2 l3 l4 ⊢
    exact ⟨fun hh => ⟨l1, l2, l3, l4, q, hh⟩, fun hh => hh.2.2.2.2.2⟩)
  have EN : Hid (¬ hbOk (ordH A1) → decide (hyt (lil A1) O I b t) = false) := Lib.hid (fun q => decide_eq_false fun h9 => q (by rw [← HNS.out]; exact h9.2.2.2.2.1))
  clear EF0 EF1 EF2 EF3 tA T1 T2 T3 SZ hrel
  go_wp2_with fail
  refine (OR.out _ HB4.out).mono ?_
  rintro e w5 ⟨u, rfl, ho, hb⟩
  have HB5 := Lib.hid (bthen HB4.out hb)
  have M0 := Lib.hid (J3.out.below hb l0)
  have HU := Lib.hid ho.sl
  clear k0 l0 hb ho
  have k0 := M0.out.cell
  have l0 := M0.out.lt
  obtain ⟨vu, cu, rfl⟩ := HU.out.opn
  go_wp2_with fail
  refine (BU.out _ _ HU.out).mono ?_
  rintro e w6 (⟨hno, rfl, hb⟩ | ⟨hyes, a2, o2, i2, rfl, ha2, ho2, hi2, hb⟩)
  · have HB6 := Lib.hid (bthen HB5.out hb)
    have E := Lib.hid (EN.out fun hh => hno (HP.out.2 hh))
    clear k0 l0 hb hno
    go_upto_region 4 with fail
    have hbx := below_alloc' w6 (.cells #[.slice none 0 0, .slice none 0 0, .slice none 0 0, .int .i64 0, .int .i64 0] 26)
    have HB7 := Lib.hid (bthen HB6.out hbx)
    clear hbx
    generalize World.alloc w6 _ = w7 at *
    go_wp2
    go_ret
    exact ⟨by rw [E.out]; rfl, HB7.out⟩
  · have HB6 := Lib.hid (bthen HB5.out hb)
    have N0 := Lib.hid (M0.out.below hb l0)
    obtain ⟨xa, ya, rfl⟩ := ha2.opn
    obtain ⟨xo, yo, rfl⟩ := ho2.opn
    obtain ⟨xi, yi, rfl⟩ := hi2.opn
    have H2 : Hid (Hy w6 _ _ _ _ _ _) := Lib.hid ⟨ha2, ho2, hi2⟩
    have E := Lib.hid (EQ.out (HP.out.1 hyes))
    have hz : (ordH A1).length ≤ 30 := by rw [OL.out]; omega
    have hle : (ordH A1).length = (lil A1).length := by rw [OL.out, LL.out]
    have SM := Lib.hid (fun W (hW : Below w.heap.size w W) (h2 : Below w6.heap.size w6 W) => impl_sameHeyting _ _ _ _ _ _ b t (botI (ordH A1)) (topI (ordH A1)) _ _ _ _ _ _ W (HH.out W hW) (H2.out.below h2) (eqL_tab (fA (ordH A1)) (by rw [hle]; exact R2.out) hz) (eqL_tab (fO (ordH A1)) (by rw [hle]; exact R3.out) hz) (eqL_tab (fI (ordH A1)) (by rw [hle]; exact R4.out) hz))
    rw [E.out] at SM
    rw [tabI_length, tabI_length, tabI_length] at SM
    rw [tabI_length, tabI_length, tabI_length]
    generalize botI (ordH A1) = bt at *
    generalize topI (ordH A1) = tp at *
    clear k0 l0 hb ha2 ho2 hi2 hyes EQ EN H2 E BU OR hz hle HP
    generalize (ordH A1).length = nn at *
    have k0 := N0.out.cell
    have l0 := N0.out.lt
    go_upto_region 4 with fail
    have hbx := below_alloc' w6 (.cells #[.slice xa nn ya, .slice xo nn yo, .slice xi nn yi, .int .i64 bt, .int .i64 tp] 26)
    have hky := Blk.new w6 26 #[.slice xa nn ya, .slice xo nn yo, .slice xi nn yi, .int .i64 bt, .int .i64 tp]
    have HB7 := Lib.hid (bthen HB6.out hbx)
    have HX7 := Lib.hid hbx
    have P0 := Lib.hid (N0.out.below hbx l0)
    have P1 := Lib.hid hky
    clear hbx k0 l0 hky
    generalize World.alloc w6 _ = w7 at *
    have k0 := P0.out.cell
    have l0 := P0.out.lt
    have k1 := P1.out.cell
    have l1 := P1.out.lt
    go_wp2_with fail
    refine (SM.out _ HB7.out HX7.out).mono ?_
    rintro e w8 ⟨rfl, hb⟩
    have HB8 := Lib.hid (bthen HB7.out hb)
    clear k0 l0 k1 l1 hb
    go_wp2
    go_ret
    exact ⟨rfl, HB8.out⟩
theorem mkOk_inR {n : Nat} {m : Int} (hn : n ≤ 30) : mkOk n m = inR m 0 (2 ^ n - 1) := by
  unfold mkOk
  rw [inR_true (by omega) (by omega), Bool.true_and, Int.toNat_natCast]
set_option maxRecDepth 100000 in
theorem impl_elementsCode (a o i : Value) (b t m : Int) (A O I : List (List Int)) (w : World) (h : Hy w a o i A O I) (hs : SzH A O I) :
    Calls Tryz.prog 40 #[.agg #[a, o, i, .int .i64 b, .int .i64 t], .int .i64 m] w fun e w' => e = .returned (.int .i64 (hcd A O I b t m)) ∧ Below w.heap.size w w' := by
  obtain ⟨va, ca, rfl⟩ := h.a.opn
  obtain ⟨vo, co, rfl⟩ := h.o.opn
  obtain ⟨vi, ci, rfl⟩ := h.i.opn
  have hb0 := below_alloc' w (.cells #[.slice va A.length ca, .slice vo O.length co, .slice vi I.length ci, .int .i64 b, .int .i64 t] 26)
  have hk0 := Blk.new w 26 #[.slice va A.length ca, .slice vo O.length co, .slice vi I.length ci, .int .i64 b, .int .i64 t]
  have HB := Lib.hid hb0
  have HK0 := Lib.hid hk0
  have IS := Lib.hid (fun W (hW : Below w.heap.size w W) => impl_isHeyting _ _ _ b t A O I W (h.below hW) hs)
  have SZ := Lib.hid (fun W (hW : Below w.heap.size w W) => impl_Hsize _ (.slice vo O.length co) (.slice vi I.length ci) b t A W (h.a.below hW))
  have E1 : Hid (¬ hyt A O I b t → hcd A O I b t m = 1) := Lib.hid (fun hh => by unfold hcd; rw [if_neg hh])
  have E2 : Hid (hyt A O I b t → inR m 0 (2 ^ A.length - 1) = false → hcd A O I b t m = 2) := Lib.hid (fun hh h2 => by unfold hcd; rw [if_pos hh, h2]; rfl)
  have E3 : Hid (hyt A O I b t → inR m 0 (2 ^ A.length - 1) = true → hcd A O I b t m = 0) := Lib.hid (fun hh h2 => by unfold hcd; rw [if_pos hh, h2]; rfl)
  have E4 : Hid (hyt A O I b t → A.length ≤ 30) := Lib.hid (fun hh => by have := inR_iff.1 hh.1; omega)
  clear hb0 hk0 h hs
  go_enter Tryz.func40, Tryz.ntmps40
  go_upto_region 1 with fail
  generalize World.alloc w _ = W at *
  have k0 := HK0.out.cell
  have l0 := HK0.out.lt
  go_wp2_with fail
  refine (IS.out _ HB.out).mono ?_
  rintro e w1 ⟨rfl, hb⟩
  have HB1 := Lib.hid (bthen HB.out hb)
  have J0 := Lib.hid (HK0.out.below hb l0)
  clear k0 l0 hb
  by_cases e1 : hyt A O I b t
  · rw [decide_eq_true e1]
    have F2 := Lib.hid (E2.out e1)
    have F3 := Lib.hid (E3.out e1)
    have h30 := E4.out e1
    have MK := Lib.hid (mkOk_inR (n := A.length) (m := m) h30)
    clear e1
    have k0 := J0.out.cell
    have l0 := J0.out.lt
    go_wp2_with fail
    refine (SZ.out _ HB1.out).mono ?_
    rintro e w2 ⟨rfl, hb⟩
    have HB2 := Lib.hid (bthen HB1.out hb)
    clear k0 l0 hb
    go_wp2_with fail
    refine (impl_isMask _ _ _).mono ?_
    rintro e _ ⟨rfl, rfl⟩
    rw [MK.out]
    cases e2 : inR m 0 (2 ^ A.length - 1)
    · have E := Lib.hid (F2.out e2)
      clear e2
      go_wp2
      go_ret
      exact ⟨by rw [E.out]; rfl, HB2.out⟩
    · have E := Lib.hid (F3.out e2)
      clear e2
      go_wp2
      go_ret
      exact ⟨by rw [E.out]; rfl, HB2.out⟩
  · rw [decide_eq_false e1]
    have E := Lib.hid (E1.out e1)
    clear e1
    go_wp2
    go_ret
    exact ⟨by rw [E.out]; rfl, HB1.out⟩
theorem fld_snoc (ns : List Nat) (x y : Nat) (ys : List Nat) : fld ns x (ys ++ [y]) = (fA ns (fld ns x ys) y).toNat := by
  induction ys generalizing x with
  | nil => rfl
  | cons z zs ih => exact ih _
set_option maxHeartbeats 1000000 in
set_option maxRecDepth 100000 in
theorem impl_filterOf (a o i : Value) (A O I : List (List Nat)) (b t m : Nat) (w : World) (h : Hy w a o i (lil A) (lil O) (lil I)) (hT : HyT A O I b t) (hm : m < 2 ^ A.length) :
    Calls Tryz.prog 63 #[.agg #[a, o, i, .int .i64 (b : Int), .int .i64 (t : Int)], .int .i64 (m : Int)] w fun e w' => e = .returned (.int .i64 (flt (ordH A) m : Nat)) ∧ Below w.heap.size w w' := by
  obtain ⟨va, ca, rfl⟩ := h.a.opn
  obtain ⟨vo, co, rfl⟩ := h.o.opn
  obtain ⟨vi, ci, rfl⟩ := h.i.opn
  have LL := Lib.hid (lil_length A)
  have h30 := hT.n30
  have htl := hT.tl
  have hm2 := Nat.lt_of_lt_of_le hm (two_pow_30 h30)
  have HH := Lib.hid (fun W (hW : Below w.heap.size w W) => h.a.below hW)
  have OR := Lib.hid (fun W (hW : Below w.heap.size w W) => impl_orderH (.slice va (lil A).length ca) (.slice vo (lil O).length co) (.slice vi (lil I).length ci) b t A W (h.a.below hW) hT.tA h30)
  rw [LL.out] at HH OR ⊢
  generalize (lil O).length = no at *
  generalize (lil I).length = ni at *
  have hb0 := below_alloc' w (.cells #[.slice va A.length ca, .slice vo no co, .slice vi ni ci, .int .i64 (b : Int), .int .i64 (t : Int)] 26)
  have hk0 := Blk.new w 26 #[.slice va A.length ca, .slice vo no co, .slice vi ni ci, .int .i64 (b : Int), .int .i64 (t : Int)]
  have HB := Lib.hid hb0
  have HK0 := Lib.hid hk0
  have TA := Lib.hid hT.tA
  have OL := Lib.hid (ordH_length A)
  have RM := Lib.hid (ordH_rel (A := A) h30)
  have MM := Lib.hid (mems_mb hm (by omega))
  have MI := Lib.hid (fun i (hi : i < (mb m A.length).length) => (mb_in hi).1)
  have hLL : (mb m A.length).length ≤ A.length := Nat.le_trans (List.length_filter_le _ _) (by rw [List.length_range]; exact Nat.le_refl _)
  have FB := Lib.hid (fun k => (fld_spec hT.ha ((mb m A.length).take k) (fun y hy => by rw [ordH_length]; exact (mb_iff.1 (List.mem_of_mem_take hy)).1) t (by rw [ordH_length]; exact htl)).1)
  have FS : Hid (∀ k (hk : k < (mb m A.length).length), fld (ordH A) t ((mb m A.length).take (k + 1)) = ent A (fld (ordH A) t ((mb m A.length).take k)) ((mb m A.length).getD k 0)) := Lib.hid (fun k hk => by
    rw [List.take_succ_eq_append_getElem hk, fld_snoc, ← getD_at hk, hT.eA _ _ (by have := FB.out k; rwa [ordH_length] at this) (mb_in hk).1, Int.toNat_natCast])
  have FE : Hid (flt (ordH A) m = (ordH A).getD (fld (ordH A) t (mb m A.length)) 0) := Lib.hid (by unfold flt; rw [hT.et, Int.toNat_natCast, ordH_length])
  rw [FE.out]
  clear hb0 hk0 h hT FE
  go_enter Tryz.func63, Tryz.ntmps63
  go_upto_region 1 with fail
  generalize World.alloc w _ = W at *
  have k0 := HK0.out.cell
  have l0 := HK0.out.lt
  go_wp2_with fail
  refine (impl_membersOf m _ (by omega)).mono ?_
  rintro e w1 ⟨u, rfl, ho, hb⟩
  rw [MM.out] at ho
  obtain ⟨L, hL⟩ : ∃ L, mb m A.length = L := ⟨_, rfl⟩
  rw [hL] at ho MI hLL FB FS
  have HLx := Lib.hid hL
  clear hL MM
  have HB1 := Lib.hid (bthen HB.out hb)
  have J0 := Lib.hid (HK0.out.below hb l0)
  obtain ⟨vl, cl, rfl⟩ := ho.opn
  have LI := Lib.hid (li_length L)
  rw [LI.out] at ho ⊢
  have HL5 := Lib.hid ho.sl
  clear hb ho k0 l0
  go_wp2
  go_loop [5, 13] (fun c i => ∃ k : Nat, k ≤ L.length ∧ i = .int .i64 k ∧ c = .int .i64 (fld (ordH A) t (L.take k) : Nat)) (fun _ i => L.length - (intOf i).toNat)
  case atStart => exact ⟨0, Nat.zero_le _, rfl, by rw [List.take_zero]; rfl⟩
  case round =>
    obtain ⟨k, hk, rfl, rfl⟩ := hrel
    have hfb := FB.out k
    rw [OL.out] at hfb
    by_cases hlt : k < L.length
    · obtain ⟨b1, o1, e1, hb1, hc1⟩ := HL5.out.atI (k := k) (by rw [LI.out]; exact hlt)
      subst e1
      rw [li_get] at hc1
      have hml := MI.out k hlt
      obtain ⟨b3, o3, d3, q3, cj, e4, hb3, hc3, hd3, hc4⟩ := ent_at (HH.out _ HB1.out) TA.out hfb hml
      subst e4
      have HFS := Lib.hid (FS.out k hlt)
      have hent := TA.out.ent_lt hfb hml
      generalize fld (ordH A) t (L.take k) = low at *
      generalize L.getD k 0 = lx at *
      generalize ent A low lx = z at *
      have k0 := J0.out.cell
      have l0 := J0.out.lt
      go_wp2
      exact ⟨⟨k + 1, by omega, by go_num, by rw [HFS.out]⟩, by simp [intOf]; omega⟩
    · obtain rfl : k = L.length := by omega
      rw [List.take_length] at hfb ⊢
      have k0 := J0.out.cell
      have l0 := J0.out.lt
      obtain ⟨low, hlow⟩ : ∃ low, fld (ordH A) t L = low := ⟨_, rfl⟩
      rw [hlow] at hfb ⊢
      have HLow := Lib.hid hlow
      clear hlow
      go_wp2_with fail
      refine (OR.out _ HB1.out).mono ?_
      rintro e w2 ⟨u2, rfl, ho, hb⟩
      obtain ⟨vu, cu, rfl⟩ := ho.opn
      have LO := Lib.hid (li_length (ordH A))
      rw [LO.out, OL.out] at ho ⊢
      have HB2 := Lib.hid (bthen HB1.out hb)
      obtain ⟨b2, o2, e2, hb2, hc2⟩ := ho.sl.atI (k := low) (by rw [LO.out, OL.out]; exact hfb)
      subst e2
      rw [li_get] at hc2
      clear hb ho k0 l0
      go_wp2
      go_ret
      exact ⟨by rw [HLx.out, HLow.out]; rfl, HB2.out⟩
set_option maxRecDepth 100000 in
theorem impl_filterCode (a o i : Value) (b t m : Int) (A O I : List (List Int)) (w : World) (h : Hy w a o i A O I) (hs : SzH A O I) :
    Calls Tryz.prog 35 #[.agg #[a, o, i, .int .i64 b, .int .i64 t], .int .i64 m] w fun e w' => e = .returned (.int .i64 (fcd A O I b t m)) ∧ Below w.heap.size w w' := by
  obtain ⟨va, ca, rfl⟩ := h.a.opn
  obtain ⟨vo, co, rfl⟩ := h.o.opn
  obtain ⟨vi, ci, rfl⟩ := h.i.opn
  have hb0 := below_alloc' w (.cells #[.slice va A.length ca, .slice vo O.length co, .slice vi I.length ci, .int .i64 b, .int .i64 t] 26)
  have hk0 := Blk.new w 26 #[.slice va A.length ca, .slice vo O.length co, .slice vi I.length ci, .int .i64 b, .int .i64 t]
  have HB := Lib.hid hb0
  have HK0 := Lib.hid hk0
  have IS := Lib.hid (fun W (hW : Below w.heap.size w W) => impl_elementsCode _ _ _ b t m A O I W (h.below hW) hs)
  have FI : Hid (hcd A O I b t m = 0 → ∃ m1 : Nat, m = m1 ∧ flt (nsOf A) m1 < 9223372036854775808 ∧ ∀ W, Below w.heap.size w W → Calls Tryz.prog 63 #[.agg #[.slice va A.length ca, .slice vo O.length co, .slice vi I.length ci, .int .i64 b, .int .i64 t], .int .i64 m] W fun e w' => e = .returned (.int .i64 (flt (nsOf A) m1 : Nat)) ∧ Below W.heap.size W w') := Lib.hid (fun h0 => by
    obtain ⟨A1, O1, I1, b1, t1, m1, rfl, rfl, rfl, rfl, rfl, rfl, hm, hT⟩ := hcd_0 h0
    refine ⟨m1, rfl, ?_, fun W hW => ?_⟩
    · rw [nsOf_lil]
      have := (ordH_rel (A := A1) hT.n30).lt (fld (ordH A1) (topI (ordH A1)).toNat (mb m1 (ordH A1).length))
      unfold flt
      omega
    · rw [nsOf_lil]
      exact impl_filterOf _ _ _ A1 O1 I1 b1 t1 m1 W (h.below hW) hT hm)
  have E1 : Hid (hcd A O I b t m ≠ 0 → fcd A O I b t m = hcd A O I b t m) := Lib.hid (fun hh => by unfold fcd; rw [if_neg hh])
  have E2 : Hid (hcd A O I b t m = 0 → flt (nsOf A) m.toNat = m.toNat → fcd A O I b t m = 0) := Lib.hid (fun hh h2 => by unfold fcd; rw [if_pos hh, if_pos h2])
  have E3 : Hid (hcd A O I b t m = 0 → ¬ flt (nsOf A) m.toNat = m.toNat → fcd A O I b t m = 5) := Lib.hid (fun hh h2 => by unfold fcd; rw [if_pos hh, if_neg h2])
  clear hb0 hk0 h hs
  go_enter Tryz.func35, Tryz.ntmps35
  go_upto_region 1 with fail
  generalize World.alloc w _ = W at *
  have k0 := HK0.out.cell
  have l0 := HK0.out.lt
  go_wp2_with fail
  refine (IS.out _ HB.out).mono ?_
  rintro e w1 ⟨rfl, hb⟩
  have HB1 := Lib.hid (bthen HB.out hb)
  have J0 := Lib.hid (HK0.out.below hb l0)
  clear k0 l0 hb IS
  by_cases e1 : hcd A O I b t m = 0
  · obtain ⟨m1, hm1, hfl, hF⟩ := FI.out e1
    have F1 := Lib.hid hF
    have F2 := Lib.hid (E2.out e1)
    have F3 := Lib.hid (E3.out e1)
    have HM := Lib.hid hm1
    rw [e1]
    clear e1 FI E1 E2 E3 hF hm1
    have k0 := J0.out.cell
    have l0 := J0.out.lt
    go_wp2_with fail
    refine (F1.out _ HB1.out).mono ?_
    rintro e w2 ⟨rfl, hb⟩
    have HB2 := Lib.hid (bthen HB1.out hb)
    clear k0 l0 hb
    by_cases e2 : flt (nsOf A) m1 = m1
    · have E := Lib.hid (F2.out (by rw [HM.out, Int.toNat_natCast]; exact e2))
      have q1 : (((flt (nsOf A) m1 : Nat) : Int) != m) = false := by rw [HM.out, neI, decide_eq_true e2]; rfl
      clear e2
      generalize flt (nsOf A) m1 = z at *
      go_wp2
      go_ret
      exact ⟨by rw [E.out]; rfl, HB2.out⟩
    · have E := Lib.hid (F3.out (by rw [HM.out, Int.toNat_natCast]; exact e2))
      have q1 : (((flt (nsOf A) m1 : Nat) : Int) != m) = true := by rw [HM.out, neI, decide_eq_false e2]; rfl
      clear e2
      generalize flt (nsOf A) m1 = z at *
      go_wp2
      go_ret
      exact ⟨by rw [E.out]; rfl, HB2.out⟩
  · have E := Lib.hid (E1.out e1)
    have q1 : (hcd A O I b t m == 0) = false := beq_eq_false_iff_ne.2 e1
    clear e1 FI E1 E2 E3
    generalize hcd A O I b t m = z at *
    go_wp2
    go_ret
    exact ⟨by rw [E.out]; rfl, HB1.out⟩
/- Heyting algebras: congruence of the program; CongruenceOfFilter of both sides. -/
set_option maxHeartbeats 2000000 in
set_option maxRecDepth 100000 in
theorem impl_congruence (a o i : Value) (A O I : List (List Nat)) (b t m : Nat) (w : World) (h : Hy w a o i (lil A) (lil O) (lil I)) (hT : HyT A O I b t) (hm : m < 2 ^ A.length) :
    Calls Tryz.prog 36 #[.agg #[a, o, i, .int .i64 (b : Int), .int .i64 (t : Int)], .int .i64 (m : Int)] w fun e w' => ∃ u, e = .returned u ∧ Ow cI 2 w.heap.size w' u (li (ccl (ordH A) m A.length).1) ∧ Below w.heap.size w w' := by
  obtain ⟨va, ca, rfl⟩ := h.a.opn
  obtain ⟨vo, co, rfl⟩ := h.o.opn
  obtain ⟨vi, ci, rfl⟩ := h.i.opn
  have LL := Lib.hid (lil_length A)
  have LI := Lib.hid (show (lil I).length = A.length by rw [lil_length, hT.tI.l])
  have h30 := hT.n30
  have hm2 := Nat.lt_of_lt_of_le hm (two_pow_30 h30)
  have HI := Lib.hid (fun W (hW : Below w.heap.size w W) => h.i.below hW)
  have SZ0 := Lib.hid (fun W (hW : Below w.heap.size w W) => impl_Hsize (.slice va (lil A).length ca) (.slice vo (lil O).length co) (.slice vi (lil I).length ci) b t (lil A) W (h.a.below hW))
  rw [LI.out] at HI
  rw [LL.out, LI.out] at SZ0 ⊢
  generalize (lil O).length = no at *
  have hb0 := below_alloc' w (.cells #[.slice va A.length ca, .slice vo no co, .slice vi A.length ci, .int .i64 (b : Int), .int .i64 (t : Int)] 26)
  have hk0 := Blk.new w 26 #[.slice va A.length ca, .slice vo no co, .slice vi A.length ci, .int .i64 (b : Int), .int .i64 (t : Int)]
  have HB := Lib.hid hb0
  have HK0 := Lib.hid hk0
  have TI := Lib.hid hT.tI
  obtain ⟨p, hp⟩ : ∃ p : Nat → Nat → Bool, (fun x y => m.testBit (ent I x y) && m.testBit (ent I y x)) = p := ⟨_, rfl⟩
  have HP : Hid (∀ x y, p x y = (m.testBit (ent I x y) && m.testBit (ent I y x))) := Lib.hid (fun x y => by rw [← hp])
  have HE : Hid (lnk A.length A.length p = rlM (ordH A) m) := Lib.hid (by
    unfold rlM
    rw [ordH_length]
    refine lnk_congr fun x hx y hy => ?_
    rw [← hp]
    unfold rlt
    rw [hT.eI x y hx hy, hT.eI y x hy hx, Int.toNat_natCast, Int.toNat_natCast])
  have HC : Hid (∀ v W, Sl cI W v (li (rlM (ordH A) m)) → Calls Tryz.prog 75 #[v] W fun e w' => ∃ u, e = .returned u ∧ Ow cI 2 W.heap.size w' u (li (ccl (ordH A) m A.length).1) ∧ Below W.heap.size W w') := Lib.hid (fun v W hW => by
    have := impl_classesOfM v (rlM (ordH A) m) W hW (fun i => Nat.lt_of_lt_of_le (getD_lt (rlM_lt (ordH A) m) i) (two_pow_30 (by rw [ordH_length]; exact h30))) (by rw [rlM_length, ordH_length]; omega)
    rw [rlM_length, ordH_length] at this
    exact this)
  have RL := Lib.hid (show (li (rlM (ordH A) m)).length = A.length by rw [li_length, rlM_length, ordH_length])
  clear hb0 hk0 h hT hp
  go_enter Tryz.func36, Tryz.ntmps36
  go_upto_region 1 with fail
  generalize World.alloc w _ = W at *
  have k0 := HK0.out.cell
  have l0 := HK0.out.lt
  go_wp2_with fail
  refine (SZ0.out _ HB.out).mono ?_
  rintro e w1 ⟨rfl, hb⟩
  have HB1 := Lib.hid (bthen HB.out hb)
  have J0 := Lib.hid (HK0.out.below hb l0)
  clear k0 l0 hb
  go_wp2_with (at_make; refine stopHere ?_)
  refine goHere ?_
  refine mk_full (K := cI) w1 ty_int64 rfl _ _ rfl w1.heap.size A.length 0 rfl rfl rfl (by omega) (Nat.le_refl _) ?_
  intro w2 ho hg hb hz
  have EZ : List.replicate A.length (0 : Int) = li (List.replicate A.length 0) := by unfold li; rw [List.map_replicate]; rfl
  rw [EZ, gvM_zero p] at ho
  have HO := Lib.hid ho
  have HB2 := Lib.hid hb
  clear ho hb hg hz EZ
  go_wp2
  go_loopw [13] (fun k wr => ∃ x : Nat, x ≤ A.length ∧ k = .int .i64 x ∧ Ow cI 2 w1.heap.size wr (.slice (some ⟨w1.heap.size, 0, none⟩) A.length A.length) (li (gvM p A.length x 0)) ∧ Below w1.heap.size w1 wr) (fun k _ => A.length - (intOf k).toNat)
  case atStart => exact ⟨0, Nat.zero_le _, rfl, HO.out, HB2.out⟩
  case round =>
    obtain ⟨x, hx, rfl, ho, hb⟩ := hrel
    obtain ⟨w3, hw3⟩ : ∃ W, W = wr := ⟨_, rfl⟩
    subst hw3
    have HOr := Lib.hid ho
    have HBr := Lib.hid hb
    clear ho hb
    by_cases hlt : x < A.length
    · go_wp2
      go_loopw [18] (fun k wq => ∃ y : Nat, y ≤ A.length ∧ k = .int .i64 y ∧ Ow cI 2 w1.heap.size wq (.slice (some ⟨w1.heap.size, 0, none⟩) A.length A.length) (li (gvM p A.length x y)) ∧ Below w1.heap.size w1 wq) (fun k _ => A.length - (intOf k).toNat)
      case atStart => exact ⟨0, Nat.zero_le _, rfl, HOr.out, HBr.out⟩
      case round =>
        obtain ⟨y, hy, rfl, hp, hb⟩ := hrel
        obtain ⟨w4, hw4⟩ : ∃ W, W = wr := ⟨_, rfl⟩
        subst hw4
        have HP4 := Lib.hid hp
        have HB4 := Lib.hid hb
        clear hp hb
        by_cases hlt2 : y < A.length
        · obtain ⟨b1, o1, d1, q1, cj1, e4, hb3, hc3, hd3, hc4⟩ := ent_at (HI.out _ (bthen HB1.out HB4.out)) TI.out hlt hlt2
          obtain ⟨b2, o2, d2, q2, cj2, e5, hb5, hc5, hd5, hc6⟩ := ent_at (HI.out _ (bthen HB1.out HB4.out)) TI.out hlt2 hlt
          subst e4
          injection e5 with e5
          injection e5 with e5 e6
          subst e5; subst e6
          have h1 := TI.out.ent_lt hlt hlt2
          have h2 := TI.out.ent_lt hlt2 hlt
          have HRE := Lib.hid (HP.out x y)
          generalize ent I x y = z1 at *
          generalize ent I y x = z2 at *
          have t4 := J0.out.below HB4.out J0.out.lt
          have t4c := t4.cell
          have t4s := t4.lt
          clear t4
          have EN : Hid (p x y = false → Ow cI 2 w1.heap.size w4 (.slice (some ⟨w1.heap.size, 0, none⟩) A.length A.length) (li (gvM p A.length x (y + 1)))) := Lib.hid (fun hq => by rw [gvM_no p A.length x y hq]; exact HP4.out)
          go_wp2_with fail
          refine (impl_has m z1 _ (by omega) (by omega)).mono ?_
          rintro e _ ⟨rfl, rfl⟩
          cases e1 : m.testBit z1
          · have E := Lib.hid (EN.out (by rw [HRE.out, e1]; rfl))
            clear e1
            go_wp2
            exact ⟨⟨y + 1, by omega, by go_num, E.out, HB4.out⟩, by simp [intOf]; omega⟩
          · rw [e1, Bool.true_and] at HRE
            clear e1
            go_wp2_with fail
            refine (impl_has m z2 _ (by omega) (by omega)).mono ?_
            rintro e _ ⟨rfl, rfl⟩
            cases e1 : m.testBit z2
            · have E := Lib.hid (EN.out (by rw [HRE.out, e1]))
              clear e1
              go_wp2
              exact ⟨⟨y + 1, by omega, by go_num, E.out, HB4.out⟩, by simp [intOf]; omega⟩
            · have hpx : p x y = true := by rw [HRE.out, e1]
              have E := Lib.hid (gvM_yes p A.length x y hlt hpx)
              have hgl := gvM_lt p A.length x y h30 hy x
              have hgx : (gvM p A.length x y).getD x 0 = msk (p x) y := by rw [gvM_get p _ _ _ hlt, if_neg (Nat.lt_irrefl _), if_pos rfl]
              rw [hgx] at hgl
              obtain ⟨ps, hps⟩ : ∃ ps, gvM p A.length x y = ps := ⟨_, rfl⟩
              have hpl : ps.length = A.length := by rw [← hps, gvM_length]
              have hp := HP4.out
              rw [hps] at hp hgx E
              obtain ⟨cj5, -, -, -⟩ := hp.at1 rfl (j := x) (by rw [li_length, hpl]; exact hlt) rfl
              have hod := hp.below (Below.refl _ _).drew
              obtain ⟨cj4, fj, -, -⟩ := hod.at1 rfl (j := x) (by rw [li_length, hpl]; exact hlt) rfl
              rw [li_get, hgx] at cj5 cj4
              have hset := Lib.hid ((hod.set1 (j := x) (x := ((msk (p x) y ||| 2 ^ y : Nat) : Int)) (u := .int .i64 (msk (p x) y ||| 2 ^ y : Nat)) rfl rfl (by rw [li_length, hpl]; exact hlt)))
              rw [li_set, ← E.out] at hset
              have hbs := Lib.hid ((HB4.out.drew).setCell (p := ⟨w1.heap.size, x, none⟩) (Nat.le_refl _) (.int .i64 (msk (p x) y ||| 2 ^ y : Nat)))
              clear hp hpx hod hps E EN HP4 hc3 hc4 hc5 hc6 hb3 hd3 hb5 hd5 t4c t4s e1
              generalize msk (p x) y = g at *
              have e2 := i64_or_nat g (2 ^ y) (by omega) (two_pow_lt (by omega))
              have e3 := wrap_two_pow'' (n := y) (by omega)
              rw [← cast_two_pow] at e2
              go_wp2
              go_still_tail 8, (by kernel_rfl)
              change wpList _ _ _ _ _ (World.drew _)
              clear cj5
              generalize World.drew _ = w5 at *
              go_wp2
              exact ⟨⟨y + 1, by omega, by go_num, hset.out, hbs.out⟩, by simp [intOf]; omega⟩
        · obtain rfl : y = A.length := by omega
          have HP5 := HP4
          rw [gvM_next] at HP5
          go_wp2
          exact ⟨⟨x + 1, by omega, by go_num, HP5.out, HB4.out⟩, by simp [intOf]; omega⟩
    · obtain rfl : x = A.length := by omega
      have e := gvM_end p A.length
      rw [HE.out] at e
      rw [e] at HOr
      clear e
      go_wp2_with fail
      refine (HC.out _ _ HOr.out.sl).mono ?_
      rintro e w4 ⟨u, rfl, ho, hb⟩
      have HO4 := Lib.hid (ho.mono (Nat.le_trans HB1.out.size HBr.out.size))
      have HB4 := Lib.hid (bthen (bthen HB1.out HBr.out) hb)
      obtain ⟨vu, cu, rfl⟩ := ho.opn
      clear ho hb
      go_wp2
      go_ret
      exact ⟨_, rfl, HO4.out, HB4.out⟩
/-- the classes of a filter, where it is one -/
def cgL (A O I : List (List Int)) (b t m : Int) : List Int := if fcd A O I b t m = 0 then li (ccl (nsOf A) m.toNat A.length).1 else []
set_option maxRecDepth 100000 in
theorem impl_CongruenceOfFilter (a o i : Value) (b t m : Int) (A O I : List (List Int)) (w : World) (h : Hy w a o i A O I) (hs : SzH A O I) :
    Calls Tryz.prog 25 #[.agg #[a, o, i, .int .i64 b, .int .i64 t], .int .i64 m] w fun e w' => ∃ u, e = .returned (.tuple #[u, .int .i64 (fcd A O I b t m)]) ∧ Ob cI 2 w.heap.size w'.heap.size w' u (cgL A O I b t m) ∧ Below w.heap.size w w' := by
  obtain ⟨va, ca, rfl⟩ := h.a.opn
  obtain ⟨vo, co, rfl⟩ := h.o.opn
  obtain ⟨vi, ci, rfl⟩ := h.i.opn
  have hb0 := below_alloc' w (.cells #[.slice va A.length ca, .slice vo O.length co, .slice vi I.length ci, .int .i64 b, .int .i64 t] 26)
  have hk0 := Blk.new w 26 #[.slice va A.length ca, .slice vo O.length co, .slice vi I.length ci, .int .i64 b, .int .i64 t]
  have HB := Lib.hid hb0
  have HK0 := Lib.hid hk0
  have IS := Lib.hid (fun W (hW : Below w.heap.size w W) => impl_filterCode _ _ _ b t m A O I W (h.below hW) hs)
  have FI : Hid (fcd A O I b t m = 0 → ∀ W, Below w.heap.size w W → Calls Tryz.prog 36 #[.agg #[.slice va A.length ca, .slice vo O.length co, .slice vi I.length ci, .int .i64 b, .int .i64 t], .int .i64 m] W fun e w' => ∃ u, e = .returned u ∧ Ow cI 2 W.heap.size w' u (cgL A O I b t m) ∧ Below W.heap.size W w') := Lib.hid (fun h0 W hW => by
    unfold cgL
    rw [if_pos h0]
    obtain ⟨A1, O1, I1, b1, t1, m1, rfl, rfl, rfl, rfl, rfl, rfl, hm, hT, hf⟩ := fcd_0 h0
    rw [nsOf_lil, Int.toNat_natCast]
    have := impl_congruence _ _ _ A1 O1 I1 b1 t1 m1 W (h.below hW) hT hm
    rwa [← lil_length A1] at this)
  have E1 : Hid (fcd A O I b t m ≠ 0 → cgL A O I b t m = []) := Lib.hid (fun hh => by unfold cgL; rw [if_neg hh])
  clear hb0 hk0 h hs
  go_enter Tryz.func25, Tryz.ntmps25
  go_upto_region 1 with fail
  generalize World.alloc w _ = W at *
  have k0 := HK0.out.cell
  have l0 := HK0.out.lt
  go_wp2_with fail
  refine (IS.out _ HB.out).mono ?_
  rintro e w1 ⟨rfl, hb⟩
  have HB1 := Lib.hid (bthen HB.out hb)
  have J0 := Lib.hid (HK0.out.below hb l0)
  clear k0 l0 hb IS
  by_cases e1 : fcd A O I b t m = 0
  · have F1 := Lib.hid (FI.out e1)
    have E0 := Lib.hid e1
    rw [e1]
    clear e1 FI E1
    have k0 := J0.out.cell
    have l0 := J0.out.lt
    go_wp2_with fail
    refine (F1.out _ HB1.out).mono ?_
    rintro e w2 ⟨u, rfl, ho, hb⟩
    have HB2 := Lib.hid (bthen HB1.out hb)
    have HO := Lib.hid (ho.mono HB1.out.size)
    obtain ⟨vu, cu, rfl⟩ := ho.opn
    clear k0 l0 hb ho
    go_wp2
    go_ret2
    exact ⟨_, by rw [E0.out]; rfl, HO.out.ob, HB2.out⟩
  · have E := Lib.hid (E1.out e1)
    have q1 : (fcd A O I b t m != 0) = true := bne_iff_ne.2 e1
    obtain ⟨z, hz⟩ : ∃ z, fcd A O I b t m = z := ⟨_, rfl⟩
    have HZ := Lib.hid hz
    rw [hz] at q1 ⊢
    clear e1 FI E1 hz
    go_wp2
    go_ret2
    exact ⟨_, by rw [HZ.out]; rfl, by rw [E.out]; exact (Ow.nil _ _).ob, HB1.out⟩
end Go.Proofs.YtgkogfjifcfkoaaGreat

/- Heyting algebras, of the reference: l19Code, l19Filter, l19Set, l19Classes, CongruenceOfFilter. -/
import Derived.Test.YtgkogfjifcfkoaaGreatY16
namespace Go.Proofs.YtgkogfjifcfkoaaGreat
open Go.RowKit
set_option linter.unusedVariables false
set_option linter.unusedSimpArgs false
/-- the error of an algebra and a set of its elements -/
def hcd (A O I : List (List Int)) (b t m : Int) : Int := if hyt A O I b t then (if inR m 0 (2 ^ A.length - 1) then 0 else 2) else 1
/-- the error of an algebra and a set that has to be a filter -/
def fcd (A O I : List (List Int)) (b t m : Int) : Int := if hcd A O I b t m = 0 then (if flt (nsOf A) m.toNat = m.toNat then 0 else 5) else hcd A O I b t m
theorem hcd_0 {A O I : List (List Int)} {b t m : Int} (h : hcd A O I b t m = 0) : ∃ (A1 O1 I1 : List (List Nat)) (b1 t1 m1 : Nat), A = lil A1 ∧ O = lil O1 ∧ I = lil I1 ∧ b = b1 ∧ t = t1 ∧ m = m1 ∧ m1 < 2 ^ A1.length ∧ HyT A1 O1 I1 b1 t1 := by
  unfold hcd at h
  by_cases h1 : hyt A O I b t
  · rw [if_pos h1] at h
    cases h2 : inR m 0 (2 ^ A.length - 1)
    · rw [h2] at h; simp at h
    · obtain ⟨A1, O1, I1, b1, t1, rfl, rfl, rfl, rfl, rfl, hT⟩ := hyt_T h1
      rw [lil_length] at h2
      have := inR_iff.1 h2
      have hp : (0 : Int) < 2 ^ A1.length := Int.pow_pos (by decide)
      refine ⟨A1, O1, I1, b1, t1, m.toNat, rfl, rfl, rfl, rfl, rfl, by omega, ?_, hT⟩
      have e : ((2 ^ A1.length : Nat) : Int) = (2 : Int) ^ A1.length := (cast_two_pow A1.length).symm
      omega
  · rw [if_neg h1] at h; omega
theorem mems_mb {m n : Nat} (hm : m < 2 ^ n) (hn : n ≤ 64) : mems m = li (mb m n) := by
  unfold mems memsTo mb li
  congr 1
  rw [show 64 = n + (64 - n) by omega, List.range_add, List.filter_append]
  have : ((List.range (64 - n)).map (fun i => n + i)).filter m.testBit = [] := by
    rw [List.filter_eq_nil_iff]
    intro x hx
    obtain ⟨i, -, rfl⟩ := List.mem_map.1 hx
    rw [Nat.testBit_lt_two_pow (Nat.lt_of_lt_of_le hm (Nat.pow_le_pow_right (by decide) (by omega)))]
    exact Bool.false_ne_true
  rw [this, List.append_nil]
theorem mb_sorted (m n : Nat) : (mb m n).Pairwise (· < ·) := List.Pairwise.filter _ List.pairwise_lt_range
theorem getD_at {l : List Nat} {i : Nat} (h : i < l.length) : l.getD i 0 = l[i] := by rw [List.getD_eq_getElem?_getD, List.getElem?_eq_getElem h]; rfl
theorem mb_in {m n i : Nat} (h : i < (mb m n).length) : (mb m n).getD i 0 < n ∧ m.testBit ((mb m n).getD i 0) = true := by
  rw [getD_at h]; exact mb_iff.1 (List.getElem_mem h)
/-- a filter, as the reference tests it -/
theorem fl_parts {A O I : List (List Nat)} {b t m : Nat} (h : HyT A O I b t) (hm : m < 2 ^ A.length) :
    flt (ordH A) m = m ↔ m.testBit t = true ∧ img (ordH A) m = m ∧ ∀ i, i < (mb m A.length).length → ∀ k, k < i → m.testBit (ent A ((mb m A.length).getD i 0) ((mb m A.length).getD k 0)) = true := by
  have hm' : m < 2 ^ (ordH A).length := by rw [ordH_length]; exact hm
  rw [flt_iff h.ha hm']
  unfold isFl
  rw [h.et, Int.toNat_natCast]
  refine and_congr Iff.rfl (and_congr Iff.rfl ?_)
  constructor
  · intro hh i hi k hk
    obtain ⟨x1, x2⟩ := mb_in hi
    obtain ⟨y1, y2⟩ := mb_in (show k < (mb m A.length).length by omega)
    have hlt : (mb m A.length).getD k 0 < (mb m A.length).getD i 0 := by
      rw [getD_at hi, getD_at (show k < (mb m A.length).length by omega)]
      exact List.pairwise_iff_getElem.1 (mb_sorted m A.length) k i (by omega) hi hk
    have := hh _ _ x2 y2 hlt
    rw [h.eA _ _ x1 y1, Int.toNat_natCast] at this
    exact this
  · intro hh x y hx hy hlt
    have hxl := bit_lt hm hx
    have hyl := bit_lt hm hy
    obtain ⟨i, hi, ei⟩ := List.mem_iff_getElem.1 (mb_iff.2 ⟨hxl, hx⟩)
    obtain ⟨k, hk, ek⟩ := List.mem_iff_getElem.1 (mb_iff.2 ⟨hyl, hy⟩)
    have hki : k < i := by
      rcases Nat.lt_trichotomy k i with h1 | h1 | h1
      · exact h1
      · subst h1; omega
      · have := List.pairwise_iff_getElem.1 (mb_sorted m A.length) i k hi hk h1
        omega
    have := hh i hi k hki
    rw [getD_at hi, getD_at hk, ei, ek] at this
    rw [h.eA x y hxl hyl, Int.toNat_natCast]
    exact this
theorem cls_known {ns : List Nat} {m : Nat} (h : HA ns) (hm : m < 2 ^ ns.length) (hf : isFl ns m) {x y : Nat} (hx : x < ns.length) (hy : y < x) (h1 : rlt ns m x y = true) (h2 : ∀ z, z < y → rlt ns m x z = false) :
    ccl ns m (x + 1) = ((ccl ns m x).1 ++ [(ccl ns m x).1.getD y 0], (ccl ns m x).2) := by
  have hf1 : (List.range x).find? (fun z => decide ((rlM ns m).getD z 0 = (rlM ns m).getD x 0)) = some y :=
    find_first hy (decide_eq_true ((rlM_eq h hm hf (by omega) hx).2 h1)) fun z hz => decide_eq_false fun he => by
      have := (rlM_eq h hm hf (show z < ns.length by omega) hx).1 he
      rw [h2 z hz] at this; cases this
  unfold ccl
  rw [dvd, hf1]
theorem cls_new {ns : List Nat} {m : Nat} (h : HA ns) (hm : m < 2 ^ ns.length) (hf : isFl ns m) {x : Nat} (hx : x < ns.length) (h2 : ∀ z, z < x → rlt ns m x z = false) :
    ccl ns m (x + 1) = ((ccl ns m x).1 ++ [(ccl ns m x).2], (ccl ns m x).2 + 1) := by
  have hf1 : (List.range x).find? (fun z => decide ((rlM ns m).getD z 0 = (rlM ns m).getD x 0)) = none := by
    rw [List.find?_eq_none]
    intro z hz he
    have hz' := List.mem_range.1 hz
    have := (rlM_eq h hm hf (show z < ns.length by omega) hx).1 (of_decide_eq_true he)
    rw [h2 z hz'] at this; cases this
  unfold ccl
  rw [dvd, hf1]
theorem ccl_length (ns : List Nat) (m x : Nat) : (ccl ns m x).1.length = x := dvd_length _ _
theorem q_l01BitM {m i : Nat} (hm : m < 9223372036854775808) (hi : i ≤ 63) (W : World) (n : Nat) :
    Calls Tryz.prog 103 #[.int .i64 m, .int .i64 i] (W.drewN n) fun e w'' => e = .returned (.bool (m.testBit i)) ∧ ∃ q, w'' = W.drewN q :=
  (spec_l01Bit m i _ hm hi).mono fun e w' hh => ⟨hh.1, n, hh.2.symm⟩
set_option maxRecDepth 100000 in
theorem spec_l19Code (a o i : Value) (b t m : Int) (A O I : List (List Int)) (w : World) (h : Hy w a o i A O I) (hs : SzH A O I) :
    Calls Tryz.prog 101 #[.agg #[a, o, i, .int .i64 b, .int .i64 t], .int .i64 m] w fun e w' => e = .returned (.int .i64 (hcd A O I b t m)) ∧ Below w.heap.size w w' := by
  obtain ⟨va, ca, rfl⟩ := h.a.opn
  obtain ⟨vo, co, rfl⟩ := h.o.opn
  obtain ⟨vi, ci, rfl⟩ := h.i.opn
  have hb0 := below_alloc' w (.cells #[.slice va A.length ca, .slice vo O.length co, .slice vi I.length ci, .int .i64 b, .int .i64 t] 26)
  have hk0 := Blk.new w 26 #[.slice va A.length ca, .slice vo O.length co, .slice vi I.length ci, .int .i64 b, .int .i64 t]
  have HB := Lib.hid hb0
  have HK0 := Lib.hid hk0
  have IS := Lib.hid (fun W (hW : Below w.heap.size w W) => spec_l18Is _ _ _ b t A O I W (h.below hW) hs)
  have SZ := Lib.hid (fun W (hW : Below w.heap.size w W) => spec_l18Size _ (.slice vo O.length co) (.slice vi I.length ci) b t A W (h.a.below hW))
  have E1 : Hid (¬ hyt A O I b t → hcd A O I b t m = 1) := Lib.hid (fun hh => by unfold hcd; rw [if_neg hh])
  have E2 : Hid (hyt A O I b t → inR m 0 (2 ^ A.length - 1) = false → hcd A O I b t m = 2) := Lib.hid (fun hh h2 => by unfold hcd; rw [if_pos hh, h2]; rfl)
  have E3 : Hid (hyt A O I b t → inR m 0 (2 ^ A.length - 1) = true → hcd A O I b t m = 0) := Lib.hid (fun hh h2 => by unfold hcd; rw [if_pos hh, h2]; rfl)
  have E4 : Hid (hyt A O I b t → A.length ≤ 30) := Lib.hid (fun hh => by have := inR_iff.1 hh.1; omega)
  clear hb0 hk0 h hs
  go_enter Tryz.func101, Tryz.ntmps101
  go_upto_region 1 with fail
  generalize World.alloc w _ = W at *
  have k0 := HK0.out.cell
  have l0 := HK0.out.lt
  go_wp2_with fail
  refine (IS.out _ HB.out).mono ?_
  rintro e w1 ⟨rfl, hb⟩
  have HB1 := Lib.hid (bthen HB.out hb)
  have J0 := Lib.hid (HK0.out.below hb l0)
  clear k0 l0 hb
  by_cases e1 : hyt A O I b t
  · rw [decide_eq_true e1]
    have F2 := Lib.hid (E2.out e1)
    have F3 := Lib.hid (E3.out e1)
    have h30 := E4.out e1
    clear e1
    have k0 := J0.out.cell
    have l0 := J0.out.lt
    go_wp2_with fail
    refine (SZ.out _ HB1.out).mono ?_
    rintro e w2 ⟨rfl, hb⟩
    have HB2 := Lib.hid (bthen HB1.out hb)
    clear k0 l0 hb
    go_wp2_with fail
    refine (spec_l01Full _ _ (by omega) (by omega)).mono ?_
    rintro e _ ⟨rfl, rfl⟩
    rw [Int.toNat_natCast]
    generalize (2 : Int) ^ A.length - 1 = F at *
    go_wp2_with fail
    refine (spec_l01In _ _ _ _).mono ?_
    rintro e _ ⟨rfl, rfl⟩
    cases e2 : inR m 0 F
    · have E := Lib.hid (F2.out e2)
      clear e2
      go_wp2
      go_ret
      exact ⟨by rw [E.out]; rfl, HB2.out⟩
    · have E := Lib.hid (F3.out e2)
      clear e2
      go_wp2
      go_ret
      exact ⟨by rw [E.out]; rfl, HB2.out⟩
  · rw [decide_eq_false e1]
    have E := Lib.hid (E1.out e1)
    clear e1
    go_wp2
    go_ret
    exact ⟨by rw [E.out]; rfl, HB1.out⟩
set_option maxHeartbeats 1000000 in
set_option maxRecDepth 100000 in
theorem spec_l19Filter (a o i : Value) (A O I : List (List Nat)) (b t m : Nat) (w : World) (h : Hy w a o i (lil A) (lil O) (lil I)) (hT : HyT A O I b t) (hm : m < 2 ^ A.length) :
    Calls Tryz.prog 102 #[.agg #[a, o, i, .int .i64 (b : Int), .int .i64 (t : Int)], .int .i64 (m : Int)] w fun e w' => e = .returned (.bool (decide (flt (ordH A) m = m))) ∧ Below w.heap.size w w' := by
  obtain ⟨va, ca, rfl⟩ := h.a.opn
  obtain ⟨vo, co, rfl⟩ := h.o.opn
  obtain ⟨vi, ci, rfl⟩ := h.i.opn
  have LL := Lib.hid (lil_length A)
  have h30 := hT.n30
  have htl := hT.tl
  have hm2 := Nat.lt_of_lt_of_le hm (two_pow_30 h30)
  have HH := Lib.hid (fun W (hW : Below w.heap.size w W) => h.a.below hW)
  rw [LL.out] at HH ⊢
  generalize (lil O).length = no at *
  generalize (lil I).length = ni at *
  have hb0 := below_alloc' w (.cells #[.slice va A.length ca, .slice vo no co, .slice vi ni ci, .int .i64 (b : Int), .int .i64 (t : Int)] 26)
  have hk0 := Blk.new w 26 #[.slice va A.length ca, .slice vo no co, .slice vi ni ci, .int .i64 (b : Int), .int .i64 (t : Int)]
  have HB := Lib.hid hb0
  have HK0 := Lib.hid hk0
  have OR := Lib.hid (fun W (hW : Below w.heap.size w W) => spec_l18Order _ (.slice vo no co) (.slice vi ni ci) b t A A.length W (HH.out W hW) hT.tA h30)
  have FP := Lib.hid (fl_parts hT hm)
  have TA := Lib.hid hT.tA
  have RM := Lib.hid (ordH_rel (A := A) h30)
  have MM := Lib.hid (mems_mb hm (by omega))
  have MI := Lib.hid (fun i (hi : i < (mb m A.length).length) => mb_in hi)
  clear hb0 hk0 h hT
  go_enter Tryz.func102, Tryz.ntmps102
  go_upto_region 1 with fail
  generalize World.alloc w _ = W at *
  have k0 := HK0.out.cell
  have l0 := HK0.out.lt
  go_wp2_with fail
  refine (spec_l01Bit m t _ (by omega) (by omega)).mono ?_
  rintro e _ ⟨rfl, rfl⟩
  cases e1 : m.testBit t
  · have E : Hid (decide (flt (ordH A) m = m) = false) := Lib.hid (decide_eq_false fun hh => by rw [(FP.out.1 hh).1] at e1; cases e1)
    clear e1
    go_wp2
    go_ret
    exact ⟨by rw [E.out]; rfl, HB.out⟩
  have P1 := Lib.hid e1
  clear e1
  go_wp2_with fail
  refine (OR.out _ HB.out).mono ?_
  rintro e w2 ⟨u, rfl, ho, hb⟩
  have HB2 := Lib.hid (bthen HB.out hb)
  have M0 := Lib.hid (HK0.out.below hb l0)
  have IM := Lib.hid (spec_l01ImageM u (ordH A) m w2 ho.sl RM.out (by omega))
  obtain ⟨vu, cu, rfl⟩ := ho.opn
  clear k0 l0 hb ho
  go_wp2_with fail
  refine IM.out.mono ?_
  rintro e _ ⟨rfl, rfl⟩
  have hi := Nat.lt_of_lt_of_le (show img (ordH A) m < 2 ^ (ordH A).length from imgTo_lt RM.out.2 m _) (two_pow_30 RM.out.1)
  by_cases e1 : img (ordH A) m = m
  rotate_left
  · have E : Hid (decide (flt (ordH A) m = m) = false) := Lib.hid (decide_eq_false fun hh => e1 (FP.out.1 hh).2.1)
    have q1 : ((img (ordH A) m : Int) != (m : Int)) = true := by rw [neI, decide_eq_false e1]; rfl
    clear e1
    generalize img (ordH A) m = im at *
    go_wp2
    go_ret
    exact ⟨by rw [E.out]; rfl, HB2.out⟩
  have P2 := Lib.hid e1
  have q1 : ((img (ordH A) m : Int) != (m : Int)) = false := by rw [neI, decide_eq_true e1]; rfl
  clear e1
  have ET : Hid ((∀ i, i < (mb m A.length).length → ∀ k, k < i → m.testBit (ent A ((mb m A.length).getD i 0) ((mb m A.length).getD k 0)) = true) → decide (flt (ordH A) m = m) = true) := Lib.hid (fun hh => decide_eq_true (FP.out.2 ⟨P1.out, P2.out, hh⟩))
  have EF : Hid (∀ i, i < (mb m A.length).length → ∀ k, k < i → m.testBit (ent A ((mb m A.length).getD i 0) ((mb m A.length).getD k 0)) = false → decide (flt (ordH A) m = m) = false) := Lib.hid (fun i hi k hk hf => decide_eq_false fun hh => by rw [(FP.out.1 hh).2.2 i hi k hk] at hf; cases hf)
  generalize img (ordH A) m = im at *
  clear FP P1 P2 IM
  go_wp2_with fail
  refine (spec_l01List m _ (by omega)).mono ?_
  rintro e w5 ⟨u2, rfl, ho, hb⟩
  rw [MM.out] at ho
  have hLL : (mb m A.length).length ≤ A.length := Nat.le_trans (List.length_filter_le _ _) (by rw [List.length_range]; exact Nat.le_refl _)
  obtain ⟨L, hL⟩ : ∃ L, mb m A.length = L := ⟨_, rfl⟩
  rw [hL] at ho MI ET EF hLL
  clear hL MM
  have HB5 := Lib.hid (bthen HB2.out hb)
  have J5 := Lib.hid (M0.out.below hb M0.out.lt)
  obtain ⟨vl, cl, rfl⟩ := ho.opn
  have LI := Lib.hid (li_length L)
  rw [LI.out] at ho ⊢
  have HL5 := Lib.hid ho.sl
  clear hb ho q1 M0
  go_wp2
  go_loopw [6] (fun i wr => ∃ x : Nat, x ≤ L.length ∧ i = .int .i64 x ∧ (∀ i, i < x → ∀ k, k < i → m.testBit (ent A (L.getD i 0) (L.getD k 0)) = true) ∧ Below w5.heap.size w5 wr) (fun i _ => L.length - (intOf i).toNat)
  case atStart => exact ⟨0, Nat.zero_le _, rfl, fun i hi => absurd hi (Nat.not_lt_zero _), Below.refl _ _⟩
  case round =>
    obtain ⟨x, hx, rfl, hh, hb⟩ := hrel
    obtain ⟨w6, hw6⟩ : ∃ W, W = wr := ⟨_, rfl⟩
    subst hw6
    have G := Lib.hid hh
    have B6 := Lib.hid hb
    clear hh hb
    by_cases hlt : x < L.length
    · go_wp2
      go_loopw [7] (fun k wr => ∃ y : Nat, y ≤ x ∧ k = .int .i64 y ∧ (∀ k, k < y → m.testBit (ent A (L.getD x 0) (L.getD k 0)) = true) ∧ Below w6.heap.size w6 wr) (fun k _ => x - (intOf k).toNat)
      case atStart => exact ⟨0, Nat.zero_le _, rfl, fun k hk => absurd hk (Nat.not_lt_zero _), Below.refl _ _⟩
      case round =>
        obtain ⟨y, hy, rfl, hh, hb⟩ := hrel
        obtain ⟨w7, hw7⟩ : ∃ W, W = wr := ⟨_, rfl⟩
        subst hw7
        have G2 := Lib.hid hh
        have B7 := Lib.hid hb
        have B57 := Lib.hid (bthen B6.out hb)
        clear hh hb
        by_cases hlt2 : y < x
        · have HNx : Hid (m.testBit (ent A (L.getD x 0) (L.getD y 0)) = true → ∀ k, k < y + 1 → m.testBit (ent A (L.getD x 0) (L.getD k 0)) = true) := Lib.hid (fun hk k h9 => by
            rcases Nat.lt_or_ge k y with h1 | h1
            · exact G2.out k h1
            · obtain rfl : k = y := by omega
              exact hk)
          have HFx := Lib.hid (EF.out x hlt y hlt2)
          obtain ⟨p1, p2⟩ := MI.out x hlt
          obtain ⟨q1, q2⟩ := MI.out y (by omega)
          obtain ⟨b1, o1, e1, hb1, hc1⟩ := (HL5.out.below B57.out).atI (k := x) (by rw [LI.out]; exact hlt)
          obtain ⟨b2, o2, e2, hb2, hc2⟩ := (HL5.out.below B57.out).atI (k := y) (by rw [LI.out]; omega)
          rw [li_get] at hc1 hc2
          subst e1
          injection e2 with e2
          injection e2 with e2 e3
          subst e2; subst e3
          have hent := TA.out.ent_lt p1 q1
          obtain ⟨b3, o3, d3, q3, cj, e4, hb3, hc3, hd3, hc4⟩ := ent_at (HH.out _ (bthen HB5.out B57.out)) TA.out p1 q1
          subst e4
          have HQ := Lib.hid (fun n => q_l01BitM (m := m) (i := ent A (L.getD x 0) (L.getD y 0)) (by omega) (by omega) w7 n)
          generalize ent A (L.getD x 0) (L.getD y 0) = z at *
          generalize L.getD x 0 = lx at *
          generalize L.getD y 0 = ly at *
          have j5 := J5.out.below B57.out J5.out.lt
          have k0 := j5.cell
          have l0 := j5.lt
          clear j5 p2 q2 hent
          go_wp2
          go_quiet ((go_at_call 103; exact HQ.out _))
          cases hz : m.testBit z
          · have E := Lib.hid (HFx.out hz)
            clear hz
            go_wp2
            go_ret
            exact ⟨by rw [E.out]; rfl, below_drewN (bthen HB5.out B57.out) _⟩
          · have E := Lib.hid (HNx.out hz)
            clear hz
            go_wp2
            exact ⟨⟨y + 1, by omega, by go_num, E.out, below_drewN B7.out _⟩, by simp [intOf]; omega⟩
        · obtain rfl : y = x := by omega
          have HNX : Hid (∀ i, i < y + 1 → ∀ k, k < i → m.testBit (ent A (L.getD i 0) (L.getD k 0)) = true) := Lib.hid (fun i hi k hk => by
            rcases Nat.lt_or_ge i y with h1 | h1
            · exact G.out i h1 k hk
            · obtain rfl : i = y := by omega
              exact G2.out k hk)
          go_wp2
          exact ⟨⟨y + 1, by omega, by go_num, HNX.out, B57.out⟩, by simp [intOf]; omega⟩
    · obtain rfl : x = L.length := by omega
      have E := Lib.hid (ET.out G.out)
      go_wp2
      go_ret
      exact ⟨by rw [E.out]; rfl, bthen HB5.out B6.out⟩
end Go.Proofs.YtgkogfjifcfkoaaGreat

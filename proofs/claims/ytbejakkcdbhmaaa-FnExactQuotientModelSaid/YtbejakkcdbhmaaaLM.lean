/- The laws' own functions on Models in the one form: size, equality. -/
import Derived.Test.YtbejakkcdbhmaaaLG
import Derived.Deep.CutRange
import Derived.Deep.DeepCutAuto
namespace Go.Proofs.Ytbejakkcdbhmaaa
open Go.RowKit
set_option linter.unusedVariables false
set_option linter.unusedSimpArgs false
theorem m_eq_Model (b : Int) (v u v' u' : Value) (xs ys : List Int) (w : World) (hx : Sl cI w v xs) (hy : Sl cI w u xs) (hx' : Sl cI w v' ys) (hy' : Sl cI w u' ys) (hn : xs.length ≤ 268435456) (hn' : ys.length ≤ 268435456) :
    Calls Try.prog 61 #[.agg #[.int .i64 b, v, v'], .agg #[.int .i64 b, u, u']] w fun e w' => e = .returned (.bool true) ∧ Below w.heap.size w w' := by
  have hb0 := below_alloc' w (.cells #[.int .i64 b, v, v'] 77)
  have hk0 := Blk.new w 77 #[.int .i64 b, v, v']
  have hb1 := below_alloc' (w.alloc (.cells #[.int .i64 b, v, v'] 77)) (.cells #[.int .i64 b, u, u'] 77)
  have hk1 : Blk _ (w.heap.size + 1) _ _ := Blk.new' (w.alloc (.cells #[.int .i64 b, v, v'] 77)) 77 #[.int .i64 b, u, u'] (by simp)
  have HB := Lib.hid (bthen hb0 hb1)
  have HK0 := Lib.hid (hk0.below hb1 hk0.lt)
  have HK1 := Lib.hid hk1
  have H1 := Lib.hid (fun W (hW : Below w.heap.size w W) => u_eq_Frame b v u xs W (hx.below hW) (hy.below hW) hn)
  have H2 := Lib.hid (fun W (hW : Below w.heap.size w W) => eq_int64S v' u' ys ys W (hx'.below hW) (hy'.below hW) (by omega))
  clear hb0 hb1 hk0 hk1 hx hy hx' hy'
  go_enter Try.func61, Try.ntmps61
  go_upto_region 1 with fail
  generalize World.alloc (w.alloc _) _ = W at *
  have k0 := HK0.out.cell
  have k1 := HK1.out.cell
  have l0 := HK0.out.lt
  have l1 := HK1.out.lt
  go_wp2_with fail
  refine (H1.out _ HB.out).mono ?_
  rintro e w1 ⟨rfl, hb⟩
  have HB1 := Lib.hid (bthen HB.out hb)
  have j0 := (HK0.out.below hb l0).cell
  have j1 := (HK1.out.below hb l1).cell
  clear k0 k1 hb
  go_wp2_with fail
  refine (H2.out _ HB1.out).mono ?_
  rintro e w2 ⟨rfl, q, rfl⟩
  have e1 : decide (ys = ys) = true := by simp
  go_wp2
  go_ret
  exact ⟨rfl, below_drewN HB1.out _⟩
theorem m_sz_Model (b : Int) (v v' : Value) (xs ys : List Int) (l : Int) (w : World) (h : Sl cI w v xs) (h' : Sl cI w v' ys) (hl : -1 ≤ l ∧ l ≤ 1048576) :
    Calls Try.prog 57 #[.agg #[.int .i64 b, v, v'], .int .i64 l] w fun e w' => e = .returned (.int .i64 (szL l (xs.length + ys.length : Nat))) ∧ Below w.heap.size w w' := by
  have hb0 := below_alloc' w (.cells #[.int .i64 b, v, v'] 72)
  have hk0 := Blk.new w 72 #[.int .i64 b, v, v']
  have HB := Lib.hid hb0
  have HK0 := Lib.hid hk0
  have H1 := Lib.hid (fun W (hW : Below w.heap.size w W) => u_sz_Frame b v xs l W (h.below hW) hl)
  have H2 := Lib.hid (fun (l : Int) (hl : -1 ≤ l ∧ l ≤ 1048576) W (hW : Below w.heap.size w W) => u_sz_SI v' ys l W (h'.below hW) hl)
  clear hb0 hk0 h h'
  rcases (show l - xs.length < 0 ∨ ¬ l - xs.length < 0 by omega) with q | q
  · rw [szL_neg q] at H1
    rw [szL_neg (by omega)]
    go_enter Try.func57, Try.ntmps57
    go_upto_region 1 with fail
    generalize World.alloc w _ = W at *
    have k0 := HK0.out.cell
    go_wp2_with fail
    refine (H1.out _ HB.out).mono ?_
    rintro e w1 ⟨rfl, hb⟩
    have HB1 := Lib.hid (bthen HB.out hb)
    clear k0 hb
    go_wp2
    go_ret
    exact ⟨rfl, HB1.out⟩
  · rw [szL_pos q] at H1
    have q' : (decide (l - ↑xs.length < 0)) = false := decide_eq_false (by omega)
    rcases (show l - xs.length - ys.length < 0 ∨ ¬ l - xs.length - ys.length < 0 by omega) with r | r
    all_goals
      have H3 := Lib.hid (H2.out (l - xs.length) (by omega))
      first | rw [szL_neg r] at H3 | rw [szL_pos r] at H3
      first | rw [szL_neg (show l - ((xs.length + ys.length : Nat) : Int) < 0 by omega)] | rw [szL_pos (show ¬ l - ((xs.length + ys.length : Nat) : Int) < 0 by omega), show l - ((xs.length + ys.length : Nat) : Int) = l - xs.length - ys.length by omega]
      first | have r' : (decide (l - ↑xs.length - ↑ys.length < 0)) = true := decide_eq_true r | have r' : (decide (l - ↑xs.length - ↑ys.length < 0)) = false := decide_eq_false r
      go_enter Try.func57, Try.ntmps57
      go_upto_region 1 with fail
      generalize World.alloc w _ = W at *
      have k0 := HK0.out.cell
      have l0 := HK0.out.lt
      go_wp2_with fail
      refine (H1.out _ HB.out).mono ?_
      rintro e w1 ⟨rfl, hb⟩
      have HB1 := Lib.hid (bthen HB.out hb)
      have k1 := (HK0.out.below hb l0).cell
      clear k0 hb
      go_wp2_with fail
      refine (H3.out _ HB1.out).mono ?_
      rintro e w2 ⟨rfl, hb⟩
      have HB2 := Lib.hid (bthen HB1.out hb)
      clear k1 hb
      go_wp2
      go_ret
      exact ⟨rfl, HB2.out⟩
theorem m_to_Model (b : Int) (v v' : Value) (xs ys : List Int) (w : World) (h : Sl cI w v xs) (h' : Sl cI w v' ys) (hl : xs.length ≤ 1048576) (hl' : ys.length ≤ 1048576) :
    Calls Try.prog 59 #[.agg #[.int .i64 b, v, v']] w fun e w' => ∃ u u' H, e = .returned (.agg #[.int .i64 b, u, u']) ∧ w.heap.size ≤ H ∧ H ≤ w'.heap.size ∧ Ob cI 2 w.heap.size H w' u xs ∧ Ob cI 2 H w'.heap.size w' u' ys ∧ Below w.heap.size w w' := by
  obtain ⟨A, c, rfl⟩ := h.opn
  obtain ⟨A', c', rfl⟩ := h'.opn
  have H1 := Lib.hid (fun W (hW : Below w.heap.size w W) => u_to_Frame b _ xs W (h.below hW) hl)
  have H2 := Lib.hid (fun W (hW : Below w.heap.size w W) => u_to_SI _ ys W (h'.below hW) hl')
  have hb0 := below_alloc' w (.cells #[.int .i64 b, .slice A xs.length c, .slice A' ys.length c'] 72)
  have hk0 := Blk.new w 72 #[.int .i64 b, .slice A xs.length c, .slice A' ys.length c']
  clear h h'
  obtain ⟨W, hW⟩ : ∃ W, ((w.alloc (.cells #[.int .i64 b, .slice A xs.length c, .slice A' ys.length c'] 72)).alloc (.cells #[.int .i64 0, .slice none 0 0, .slice none 0 0] 77)).alloc (.cells #[.int .i64 0, .slice none 0 0, .slice none 0 0] 77) = W := ⟨_, rfl⟩
  have HW : Hid (Below w.heap.size w W) := Lib.hid (by rw [← hW]; exact (((hb0.alloc (by simp) _)).alloc (by simp <;> omega) _))
  have hbW : Below (w.heap.size + 1) (w.alloc (.cells #[.int .i64 b, .slice A xs.length c, .slice A' ys.length c'] 72)) W := by rw [← hW]; exact (((Below.refl _ _).alloc (by simp) _).alloc (by simp <;> omega) _)
  have HK := Lib.hid (hk0.below hbW (by omega))
  have HR : Hid (Blk W (w.heap.size + 1) 77 #[.int .i64 0, .slice none 0 0, .slice none 0 0]) := Lib.hid (by rw [← hW]; exact (Blk.new' _ _ _ (by simp)).alloc _)
  have HT : Hid (Blk W (w.heap.size + 1 + 1) 77 #[.int .i64 0, .slice none 0 0, .slice none 0 0]) := Lib.hid (by rw [← hW]; exact Blk.new' _ _ _ (by simp))
  have hWs : W.heap.size = w.heap.size + 3 := by rw [← hW]; simp
  go_enter Try.func59, Try.ntmps59
  go_upto_region 2 with fail
  try rw [hW]
  clear hW hbW hb0 hk0
  have k0 := HK.out.cell
  have l0 := HK.out.lt
  have l1 := HR.out.lt
  have l2 := HT.out.lt
  go_wp2_with fail
  refine (H1.out _ HW.out).mono ?_
  rintro e w1 ⟨u, rfl, ho, hb⟩
  obtain ⟨A1, c1, rfl⟩ := ho.opn
  have hz1 := hb.size
  have HK1 := Lib.hid (HK.out.below hb l0)
  have HR1 := Lib.hid (HR.out.below hb l1)
  have HT1 := Lib.hid (HT.out.below hb l2)
  have HO1 := Lib.hid ho
  have HB1 := Lib.hid (bthen HW.out hb)
  have k1 := HK1.out.cell
  have j1 := HT1.out.cell
  have f1 := HT1.out.frozen
  have m0 := HK1.out.lt
  have m1 := HR1.out.lt
  have m2 := HT1.out.lt
  clear k0 ho hb
  go_upto_region 3 with fail
  have HK2 := Lib.hid ((HK1.out.far (p := ⟨w.heap.size + 1 + 1, 0, none⟩) (by show w.heap.size ≠ w.heap.size + 1 + 1; omega) (.int .i64 b)).far (p := ⟨w.heap.size + 1 + 1, 1, none⟩) (by show w.heap.size ≠ w.heap.size + 1 + 1; omega) (.slice A1 xs.length c1))
  have HR2 := Lib.hid ((HR1.out.far (p := ⟨w.heap.size + 1 + 1, 0, none⟩) (by show w.heap.size + 1 ≠ w.heap.size + 1 + 1; omega) (.int .i64 b)).far (p := ⟨w.heap.size + 1 + 1, 1, none⟩) (by show w.heap.size + 1 ≠ w.heap.size + 1 + 1; omega) (.slice A1 xs.length c1))
  have HT2 : Hid (Blk _ (w.heap.size + 1 + 1) 77 #[.int .i64 b, .slice A1 xs.length c1, .slice none 0 0]) := Lib.hid ((HT1.out.set_ 0 (.int .i64 b)).set_ 1 (.slice A1 xs.length c1))
  have HO2 : Hid (Ow cI 2 W.heap.size _ (.slice A1 xs.length c1) xs) := Lib.hid ((HO1.out.1.setBelow (p := ⟨w.heap.size + 1 + 1, 0, none⟩) l2 (.int .i64 b)).setBelow (p := ⟨w.heap.size + 1 + 1, 1, none⟩) l2 (.slice A1 xs.length c1))
  have HB2 := Lib.hid ((HB1.out.setCell (p := ⟨w.heap.size + 1 + 1, 0, none⟩) (by show w.heap.size ≤ w.heap.size + 1 + 1; omega) (.int .i64 b)).setCell (p := ⟨w.heap.size + 1 + 1, 1, none⟩) (by show w.heap.size ≤ w.heap.size + 1 + 1; omega) (.slice A1 xs.length c1))
  have hz2 : ((w1.setCell ⟨w.heap.size + 1 + 1, 0, none⟩ (.int .i64 b)).setCell ⟨w.heap.size + 1 + 1, 1, none⟩ (.slice A1 xs.length c1)).heap.size = w1.heap.size := by simp
  clear k1 j1 f1 HK1 HR1 HT1 HB1
  generalize (w1.setCell ⟨w.heap.size + 1 + 1, 0, none⟩ (.int .i64 b)).setCell ⟨w.heap.size + 1 + 1, 1, none⟩ (.slice A1 xs.length c1) = W2 at *
  have k2 := HK2.out.cell
  have n0 := HK2.out.lt
  have n1 := HR2.out.lt
  have n2 := HT2.out.lt
  go_wp2_with fail
  refine (H2.out _ HB2.out).mono ?_
  rintro e w3 ⟨u', rfl, ho, hb⟩
  obtain ⟨A3, c3, rfl⟩ := ho.opn
  have hz3 := hb.size
  have HR3 := Lib.hid (HR2.out.below hb n1)
  have HT3 := Lib.hid (HT2.out.below hb n2)
  have HO3 := Lib.hid (HO2.out.below hb)
  have HP3 := Lib.hid ho
  have HB3 := Lib.hid (bthen HB2.out hb)
  have j3 := HT3.out.cell
  have f3 := HT3.out.frozen
  have p2 := HT3.out.lt
  have r3 := HR3.out.cell
  have g3 := HR3.out.frozen
  have p1 := HR3.out.lt
  clear k2 ho hb
  go_wp2
  refine bodyPost_ret (v := .agg #[.int .i64 b, .slice A1 xs.length c1, .slice A3 ys.length c3]) (by simp [results, Try.results59, go_sem, r3, g3, p1, j3, f3, p2]) rfl ⟨_, _, W2.heap.size, rfl, by omega, ?_, ?_, ?_, ?_⟩
  · simp; omega
  · refine ⟨(((((HO3.out.setBelow (by show w.heap.size + 1 + 1 < W.heap.size; omega) _).setBelow (by show w.heap.size + 1 < W.heap.size; omega) _).setBelow (by show w.heap.size + 1 < W.heap.size; omega) _).setBelow (by show w.heap.size + 1 < W.heap.size; omega) _)).mono (by omega), ?_⟩
    rw [hz2]
    exact HO1.out.2
  · refine Ow.ob ?_
    exact ((((HP3.out.1.setBelow (by show w.heap.size + 1 + 1 < W2.heap.size; omega) _).setBelow (by show w.heap.size + 1 < W2.heap.size; omega) _).setBelow (by show w.heap.size + 1 < W2.heap.size; omega) _).setBelow (by show w.heap.size + 1 < W2.heap.size; omega) _)
  · exact (((HB3.out.setCell (by show w.heap.size ≤ w.heap.size + 1 + 1; omega) _).setCell (by show w.heap.size ≤ w.heap.size + 1; omega) _).setCell (by show w.heap.size ≤ w.heap.size + 1; omega) _).setCell (by show w.heap.size ≤ w.heap.size + 1; omega) _
theorem m_mark_Model (b : Int) (v v' : Value) (xs ys : List Int) (k : Int) (B H H' : Nat) (w : World) (h : Ob cI 2 B H w v xs) (h' : Ob cI 2 H H' w v' ys) (hBH : B ≤ H) (hHH : H ≤ H') (hw : H' ≤ w.heap.size) (hl : xs.length ≤ 268435456) (hl' : ys.length ≤ 268435456) (hk : 0 ≤ k ∧ k ≤ 268435456) :
    Calls Try.prog 62 #[.agg #[.int .i64 b, v, v'], .int .i64 k] w fun e w' => e = .returned (.int .i64 (k + xs.length + ys.length)) ∧ Ob cI 2 B H w' v (numL xs.length k) ∧ Ob cI 2 H H' w' v' (numL ys.length (k + xs.length)) ∧ Keep B H' w w' := by
  have hb0 := below_alloc' w (.cells #[.int .i64 b, v, v'] 77)
  have hk0 := Blk.new w 77 #[.int .i64 b, v, v']
  have HK0 := Lib.hid hk0
  have HA := Lib.hid (h.below hb0)
  have HA' := Lib.hid (h'.below hb0)
  have HB := Lib.hid (Keep.of_below (B := B) (H := H') hb0)
  have hlo : ∀ g, v.ownBlock = some g → g < w.heap.size := fun g hg => (h.1.block g hg).2
  have hlo' : ∀ g, v'.ownBlock = some g → g < w.heap.size := fun g hg => (h'.1.block g hg).2
  have HLO := Lib.hid hlo
  have HLO' := Lib.hid hlo'
  clear h h' hb0 hk0 hlo hlo'
  go_enter Try.func62, Try.ntmps62
  go_upto_region 1 with fail
  generalize World.alloc w _ = W at *
  have k0 := HK0.out.cell
  have l0 := HK0.out.lt
  go_wp2_with fail
  refine (u_mark_Frame b v xs k B H _ HA.out (by omega) hk).mono ?_
  rintro e w1 ⟨rfl, ho, hkp⟩
  have hk1 : Blk w1 w.heap.size 77 #[.int .i64 b, v, v'] := (hkp.block _ l0 (.inr (by omega))).trans HK0.out
  have k1 := hk1.cell
  have m0 := hk1.lt
  have HO := Lib.hid ho
  have HA1 := Lib.hid (HA'.out.keep hkp (.inr (Nat.le_refl _)))
  have HB1 := Lib.hid (HB.out.trans (hkp.mono (Nat.le_refl _) hHH))
  clear k0 ho hkp hk1
  go_wp2_with fail
  refine (mark_int64S v' ys (k + xs.length) H _ HA1.out.1 (by omega) (by omega)).mono ?_
  rintro e w2 ⟨rfl, ho2, hg⟩
  have hkp2 : Keep H H' w1 w2 := Keep.of_grown hg fun g hk => ⟨(HA1.out.1.block g hk).1, HA1.out.2 g hk⟩
  have HO2 := Lib.hid (HO.out.keep hkp2 (.inl (Nat.le_refl _)))
  have HP2 := Lib.hid (HA1.out.inv ho2)
  have HB2 := Lib.hid (HB1.out.trans (hkp2.mono hBH (Nat.le_refl _)))
  clear k1 ho2 hg hkp2
  go_wp2
  go_ret
  exact ⟨rfl, HO2.out, HP2.out, HB2.out⟩
/-! The same in the form that genlaw.py's walks take: each slice with what it reads. -/
theorem u_sz_Model (b : Int) (v : Value) (xs : List Int) (v' : Value) (ys : List Int) (l : Int) (w : World) (h : Sl cI w v xs) (h' : Sl cI w v' ys) (hl : -1 ≤ l ∧ l ≤ 1048576) :
    Calls Try.prog 57 #[.agg #[.int .i64 b, v, v'], .int .i64 l] w fun e w' => e = .returned (.int .i64 (szL l (xs.length + ys.length : Nat))) ∧ Below w.heap.size w w' := m_sz_Model b v v' xs ys l w h h' hl
theorem u_eq_Model (b : Int) (v u : Value) (xs : List Int) (v' u' : Value) (ys : List Int) (w : World) (hx : Sl cI w v xs) (hx' : Sl cI w v' ys) (hy : Sl cI w u xs) (hy' : Sl cI w u' ys) (hn : xs.length + ys.length ≤ 268435456) :
    Calls Try.prog 61 #[.agg #[.int .i64 b, v, v'], .agg #[.int .i64 b, u, u']] w fun e w' => e = .returned (.bool true) ∧ Below w.heap.size w w' := m_eq_Model b v u v' u' xs ys w hx hy hx' hy' (by omega) (by omega)
theorem u_to_Model (b : Int) (v : Value) (xs : List Int) (v' : Value) (ys : List Int) (w : World) (h : Sl cI w v xs) (h' : Sl cI w v' ys) (hl : xs.length + ys.length ≤ 1048576) :
    Calls Try.prog 59 #[.agg #[.int .i64 b, v, v']] w fun e w' => ∃ u u' H, e = .returned (.agg #[.int .i64 b, u, u']) ∧ w.heap.size ≤ H ∧ H ≤ w'.heap.size ∧ Ob cI 2 w.heap.size H w' u xs ∧ Ob cI 2 H w'.heap.size w' u' ys ∧ Below w.heap.size w w' := m_to_Model b v v' xs ys w h h' (by omega) (by omega)
theorem u_mark_Model (b : Int) (v : Value) (xs : List Int) (v' : Value) (ys : List Int) (k : Int) (B H H' : Nat) (w : World) (h : Ob cI 2 B H w v xs) (h' : Ob cI 2 H H' w v' ys) (hs : B ≤ H ∧ H ≤ H' ∧ H' ≤ w.heap.size) (hl : xs.length + ys.length ≤ 268435456) (hk : 0 ≤ k ∧ k ≤ 268435456) :
    Calls Try.prog 62 #[.agg #[.int .i64 b, v, v'], .int .i64 k] w fun e w' => e = .returned (.int .i64 (k + xs.length + ys.length)) ∧ Ob cI 2 B H w' v (numL xs.length k) ∧ Ob cI 2 H H' w' v' (numL ys.length (k + xs.length)) ∧ Keep B H' w w' := m_mark_Model b v v' xs ys k B H H' w h h' hs.1 hs.2.1 hs.2.2 (by omega) (by omega) hk
theorem u_held_Model (b : Int) (v : Value) (m : Nat) (v' : Value) (m' : Nat) (k : Int) (w : World) (h : Sl cI w v (numL m k)) (h' : Sl cI w v' (numL m' (k + m))) (hl : m + m' ≤ 268435456) (hk : 0 ≤ k ∧ k ≤ 268435456) :
    Calls Try.prog 67 #[.agg #[.int .i64 b, v, v'], .int .i64 k] w fun e w' => e = .returned (.int .i64 (k + m + m')) ∧ Below w.heap.size w w' := by
  have hb0 := below_alloc' w (.cells #[.int .i64 b, v, v'] 77)
  have hk0 := Blk.new w 77 #[.int .i64 b, v, v']
  have HB := Lib.hid hb0
  have HK0 := Lib.hid hk0
  have H1 := Lib.hid (fun W (hW : Below w.heap.size w W) => u_held_Frame b v m k W (h.below hW) (by omega) hk)
  have H2 := Lib.hid (fun W (hW : Below w.heap.size w W) => held_int64S v' _ (k + m) W (h'.below hW) (by rw [numL_length]; omega) (by omega))
  have h1 : decide ((k + (m : Int)) < 0) = false := decide_eq_false (by omega)
  have h2 : decide ((k + (m : Int) + (m' : Int)) < 0) = false := decide_eq_false (by omega)
  clear hb0 hk0 h h'
  go_enter Try.func67, Try.ntmps67
  go_upto_region 1 with fail
  generalize World.alloc w _ = W at *
  have k0 := HK0.out.cell
  have l0 := HK0.out.lt
  go_wp2_with fail
  refine (H1.out _ HB.out).mono ?_
  rintro e w1 ⟨rfl, hb⟩
  have HB1 := Lib.hid (bthen HB.out hb)
  have k1 := (HK0.out.below hb l0).cell
  have l1 := (HK0.out.below hb l0).lt
  clear k0 hb
  go_wp2_with fail
  refine (H2.out _ HB1.out).mono ?_
  rintro e w2 ⟨rfl, rfl⟩
  rw [heldL_numL]
  go_wp2
  go_ret
  exact ⟨rfl, HB1.out⟩
end Go.Proofs.Ytbejakkcdbhmaaa

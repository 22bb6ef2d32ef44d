/- Contracts of chapter 32: MeetTraces, of the program. -/
import Derived.Test.YtjpgiamblbgkpaaGreat32L
import Derived.Test.YtjpgiamblbgkpaaGreatB4
import Derived.Deep.QuietTactic
import Derived.BigQuiet
namespace Go.Proofs.YtjpgiamblbgkpaaGreat
open Go.RowKit
set_option linter.unusedVariables false
set_option linter.unusedSimpArgs false
theorem q_Contains {v : Value} {xs : List Int} {W : World} (h : Sl cI W v xs) (hl : xs.length ≤ 1048576) (x : Int) (n : Nat) :
    Calls Tryz.prog 48 #[v, .int .i64 x] (W.drewN n) fun e w'' => e = .returned (.bool (decide (x ∈ xs))) ∧ ∃ m, w'' = W.drewN m :=
  (slices_Contains v xs x _ (h.drewN n) hl).mono fun e w' hh => ⟨hh.1, n, hh.2.symm⟩
theorem sharing_cl (x : Int) (g1 g2 : Nat) (v : Value) (ys : List Int) (want : Bool) (W : World) (k1 : W.cell? ⟨g1, 0, none⟩ = some v) (k2 : W.cell? ⟨g2, 0, none⟩ = some (.bool want)) (h : Sl cI W v ys) (hl : ys.length ≤ 1048576) :
    Calls Tryz.prog 47 #[.int .i64 x, .pointer (some ⟨g1, 0, none⟩), .pointer (some ⟨g2, 0, none⟩)] W fun e w' => e = .returned (.bool (decide (x ∈ ys) != want)) ∧ ∃ q, w' = W.drewN q := by
  obtain ⟨A, c, rfl⟩ := h.opn
  have HQ := Lib.hid (fun n => q_Contains h hl x n)
  clear h
  obtain ⟨z, hz⟩ : ∃ z, decide (x ∈ ys) = z := ⟨_, rfl⟩
  rw [hz] at HQ ⊢
  clear hz
  go_enter Tryz.func47, Tryz.ntmps47
  go_wp2
  go_quiet ((go_at_call 48; exact HQ.out _))
  go_wp2
  go_ret
  exact ⟨by cases z <;> cases want <;> rfl, _, rfl⟩
theorem impl_sharing (v u : Value) (xs ys : List Int) (want : Bool) (w : World) (h : Sl cI w v xs) (h' : Sl cI w u ys) (hl : xs.length ≤ 1048576) (hl' : ys.length ≤ 1048576) :
    Calls Tryz.prog 22 #[v, u, .bool want] w fun e w' => ∃ r, e = .returned r ∧ Ow cI 2 w.heap.size w' r (shr xs ys want) ∧ Below w.heap.size w w' := by
  obtain ⟨A, c, rfl⟩ := h.opn
  obtain ⟨A', c', rfl⟩ := h'.opn
  have eg : ∀ args w, (callFunc 47 args).run Tryz.prog w = .ok (.enter 47 args) w := enters_of Tryz.func47 (by kernel_rfl) rfl
  have hb0 := below_alloc' w (.cells #[.slice A' ys.length c'] 24)
  have hk0 := Blk.new w 24 #[.slice A' ys.length c']
  have hb1 := below_alloc' (w.alloc (.cells #[.slice A' ys.length c'] 24)) (.cells #[.bool want] 4)
  have hk1 : Blk _ (w.heap.size + 1) _ _ := Blk.new' (w.alloc (.cells #[.slice A' ys.length c'] 24)) 4 #[.bool want] (by simp)
  have HB := Lib.hid (bthen hb0 hb1)
  have HK0 := Lib.hid (hk0.below hb1 hk0.lt)
  have HK1 := Lib.hid hk1
  have HSZ : Hid (((w.alloc (.cells #[.slice A' ys.length c'] 24)).alloc (.cells #[.bool want] 4)).heap.size = w.heap.size + 2) := Lib.hid (by simp)
  have HC := Lib.hid (fun W (hW : Below w.heap.size w W) => slices_Clone_int64 _ xs W (h.below hW) (by omega))
  have HD := Lib.hid (fun (v1 : Value) (W0 W1 : World) (h1 : Ow cI 2 (w.heap.size + 2) W1 v1 xs) (q0 : Below w.heap.size w W1) (z0 : W1.cell? ⟨w.heap.size, 0, none⟩ = some (.slice A' ys.length c')) (z1 : W1.cell? ⟨w.heap.size + 1, 0, none⟩ = some (.bool want)) (hs : w.heap.size + 2 ≤ W1.heap.size) =>
    slices_DeleteFunc v1 xs (fun x => decide (x ∈ ys) != want) 47 #[.pointer (some ⟨w.heap.size, 0, none⟩), .pointer (some ⟨w.heap.size + 1, 0, none⟩)] (w.heap.size + 2) W1 h1 hs hl eg
      (fun W x hW => sharing_cl x w.heap.size (w.heap.size + 1) _ ys want W ((hW.cell (p := ⟨w.heap.size, 0, none⟩) (show w.heap.size < w.heap.size + 2 by omega)).trans z0) ((hW.cell (p := ⟨w.heap.size + 1, 0, none⟩) (show w.heap.size + 1 < w.heap.size + 2 by omega)).trans z1) (h'.below (q0.trans (hW.mono (by omega)))) hl'))
  clear hb0 hb1 hk0 hk1 h h' eg
  go_enter Tryz.func22, Tryz.ntmps22
  go_upto_region 1 with fail
  generalize World.alloc (w.alloc _) _ = W at *
  go_wp2_with fail
  refine (HC.out _ HB.out).mono ?_
  rintro e w1 ⟨u1, rfl, ho, hb⟩
  rw [HSZ.out] at ho
  have z0 := (HK0.out.below hb HK0.out.lt).cell 0
  have z1 := (HK1.out.below hb HK1.out.lt).cell 0
  have HDD := Lib.hid (HD.out u1 W w1 ho (bthen HB.out hb) z0 z1 (by have := hb.size; have := HSZ.out; omega))
  have HB1 := Lib.hid (bthen HB.out hb)
  clear ho hb z0 z1
  go_wp2_with fail
  refine HDD.out.mono ?_
  rintro e w2 ⟨u2, rfl, ho, hb⟩
  have Z1 := Lib.hid (ho.mono (show w.heap.size ≤ w.heap.size + 2 by omega))
  have Z2 := Lib.hid (HB1.out.trans (hb.mono (show w.heap.size ≤ w.heap.size + 2 by omega)))
  clear ho hb
  go_wp2
  go_ret
  exact ⟨_, rfl, Z1.out, Z2.out⟩
theorem impl_MeetTraces_bad (v u : Value) (bt bu : Bool) (xs ys : List Int) (w : World) (h : Sl cI w v xs) (h' : Sl cI w u ys) (hl : xs.length ≤ 1048576) (hl' : ys.length ≤ 1048576) (hc : okT xs = false ∨ (okT xs = true ∧ okT ys = false)) :
    Calls Tryz.prog 6 #[.agg #[.bool bt, v], .agg #[.bool bu, u]] w fun e w' => e = .returned (.tuple #[.agg #[.bool false, .slice none 0 0], .int .i64 1]) ∧ Below w.heap.size w w' := by
  obtain ⟨A, c, rfl⟩ := h.opn
  obtain ⟨A', c', rfl⟩ := h'.opn
  have hb0 := below_alloc' w (.cells #[.bool bt, .slice A xs.length c] 26)
  have hk0 := Blk.new w 26 #[.bool bt, .slice A xs.length c]
  have hb1 := below_alloc' (w.alloc (.cells #[.bool bt, .slice A xs.length c] 26)) (.cells #[.bool bu, .slice A' ys.length c'] 26)
  have hk1 : Blk _ (w.heap.size + 1) _ _ := Blk.new' (w.alloc (.cells #[.bool bt, .slice A xs.length c] 26)) 26 #[.bool bu, .slice A' ys.length c'] (by simp)
  have hb2 := below_alloc' ((w.alloc (.cells #[.bool bt, .slice A xs.length c] 26)).alloc (.cells #[.bool bu, .slice A' ys.length c'] 26)) (.cells #[.bool false, .slice none 0 0] 26)
  have hk2 : Blk _ (w.heap.size + 2) _ _ := Blk.new' ((w.alloc (.cells #[.bool bt, .slice A xs.length c] 26)).alloc (.cells #[.bool bu, .slice A' ys.length c'] 26)) 26 #[.bool false, .slice none 0 0] (by simp)
  have HB := Lib.hid (bthen (bthen hb0 hb1) hb2)
  have HK0 := Lib.hid ((hk0.below hb1 hk0.lt).below hb2 (hk0.below hb1 hk0.lt).lt)
  have HK1 := Lib.hid (hk1.below hb2 hk1.lt)
  have HK2 := Lib.hid hk2
  have HT := Lib.hid (fun W (hW : Below w.heap.size w W) => impl_isTrace _ bt xs W (h.below hW) hl)
  have HU := Lib.hid (fun W (hW : Below w.heap.size w W) => impl_isTrace _ bu ys W (h'.below hW) hl')
  clear hb0 hb1 hk0 hk1 hb2 hk2 h h'
  go_enter Tryz.func6, Tryz.ntmps6
  go_upto_region 1 with fail
  generalize World.alloc (World.alloc (w.alloc _) _) _ = W at *
  have k0 := HK0.out.cell
  have l0 := HK0.out.lt
  have k1 := HK1.out.cell
  have l1 := HK1.out.lt
  have k2 := HK2.out.cell
  have f2 := HK2.out.frozen
  have l2 := HK2.out.lt
  rcases hc with hc | ⟨hc0, hc⟩
  · rw [hc] at HT
    go_wp2_with fail
    refine (HT.out _ HB.out).mono ?_
    rintro e w1 ⟨rfl, hb⟩
    have q2 := HK2.out.below hb l2
    have HB1 := Lib.hid (bthen HB.out hb)
    clear k0 k1 k2 f2 hb
    have k2 := q2.cell
    have f2 := q2.frozen
    have l2 := q2.lt
    clear q2
    go_wp2
    refine bodyPost_ret (v := .tuple #[.agg #[.bool false, .slice none 0 0], .int .i64 1]) (by simp [results, Tryz.results6, go_sem, k2, f2, l2]) rfl ⟨rfl, ?_⟩
    exact (HB1.out.setCell (by show w.heap.size ≤ w.heap.size + 2; omega) _).setCell (by show w.heap.size ≤ w.heap.size + 2; omega) _
  · rw [hc0] at HT
    rw [hc] at HU
    go_wp2_with fail
    refine (HT.out _ HB.out).mono ?_
    rintro e w1 ⟨rfl, hb⟩
    have q1 := HK1.out.below hb l1
    have q2 := HK2.out.below hb l2
    have HB1 := Lib.hid (bthen HB.out hb)
    clear k0 k1 k2 f2 hb
    have k1 := q1.cell
    have l1 := q1.lt
    have HQ2 := Lib.hid q2
    clear q1 q2
    go_wp2_with fail
    refine (HU.out _ HB1.out).mono ?_
    rintro e w2 ⟨rfl, hb⟩
    have q2 := HQ2.out.below hb HQ2.out.lt
    have HB2 := Lib.hid (bthen HB1.out hb)
    clear k1 hb
    have k2 := q2.cell
    have f2 := q2.frozen
    have l2 := q2.lt
    clear q2
    go_wp2
    refine bodyPost_ret (v := .tuple #[.agg #[.bool false, .slice none 0 0], .int .i64 1]) (by simp [results, Tryz.results6, go_sem, k2, f2, l2]) rfl ⟨rfl, ?_⟩
    exact (HB2.out.setCell (by show w.heap.size ≤ w.heap.size + 2; omega) _).setCell (by show w.heap.size ≤ w.heap.size + 2; omega) _
theorem impl_MeetTraces_ok (v u : Value) (bt bu : Bool) (xs ys : List Int) (w : World) (h : Sl cI w v xs) (h' : Sl cI w u ys) (hl : xs.length ≤ 1048576) (hl' : ys.length ≤ 1048576) (hc : okT xs = true) (hc' : okT ys = true) :
    Calls Tryz.prog 6 #[.agg #[.bool bt, v], .agg #[.bool bu, u]] w fun e w' => ∃ r, e = .returned (.tuple #[.agg #[.bool (bt || bu), r], .int .i64 0]) ∧ Ow cI 2 w.heap.size w' r (mtR bt xs bu ys) ∧ Below w.heap.size w w' := by
  obtain ⟨A, c, rfl⟩ := h.opn
  obtain ⟨A', c', rfl⟩ := h'.opn
  have hb0 := below_alloc' w (.cells #[.bool bt, .slice A xs.length c] 26)
  have hk0 := Blk.new w 26 #[.bool bt, .slice A xs.length c]
  have hb1 := below_alloc' (w.alloc (.cells #[.bool bt, .slice A xs.length c] 26)) (.cells #[.bool bu, .slice A' ys.length c'] 26)
  have hk1 : Blk _ (w.heap.size + 1) _ _ := Blk.new' (w.alloc (.cells #[.bool bt, .slice A xs.length c] 26)) 26 #[.bool bu, .slice A' ys.length c'] (by simp)
  have hb2 := below_alloc' ((w.alloc (.cells #[.bool bt, .slice A xs.length c] 26)).alloc (.cells #[.bool bu, .slice A' ys.length c'] 26)) (.cells #[.bool false, .slice none 0 0] 26)
  have hk2 : Blk _ (w.heap.size + 2) _ _ := Blk.new' ((w.alloc (.cells #[.bool bt, .slice A xs.length c] 26)).alloc (.cells #[.bool bu, .slice A' ys.length c'] 26)) 26 #[.bool false, .slice none 0 0] (by simp)
  have HB := Lib.hid (bthen (bthen hb0 hb1) hb2)
  have HK0 := Lib.hid ((hk0.below hb1 hk0.lt).below hb2 (hk0.below hb1 hk0.lt).lt)
  have HK1 := Lib.hid (hk1.below hb2 hk1.lt)
  have HK2 := Lib.hid hk2
  have HT := Lib.hid (fun W (hW : Below w.heap.size w W) => hc ▸ impl_isTrace _ bt xs W (h.below hW) hl)
  have HU := Lib.hid (fun W (hW : Below w.heap.size w W) => hc' ▸ impl_isTrace _ bu ys W (h'.below hW) hl')
  have HS1 := Lib.hid (fun W (hW : Below w.heap.size w W) => impl_sharing _ _ xs ys bu W (h.below hW) (h'.below hW) hl hl')
  have HS2 := Lib.hid (fun W (hW : Below w.heap.size w W) => impl_sharing _ _ ys xs false W (h'.below hW) (h.below hW) hl' hl)
  have hx6 := okT_len hc
  have hy6 := okT_len hc'
  have HCC := Lib.hid (fun W (hW : Below w.heap.size w W) => slices_Concat_ints _ [xs, ys] _ (Sl2.two (h.below hW) (h'.below hW) 24) (by simp) (by simp; omega))
  have HE1 := Lib.hid (mt_true (ys := ys) bu hc)
  have HE2 := Lib.hid (mt_false (xs := xs) hc')
  have HE3 := Lib.hid (mt_none hc hc')
  have HML := Lib.hid (fun (Z : List Int) (hZ : Z.length ≤ 200) (v0 : Value) B W (h0 : Ow cI 2 B W v0 Z) => slices_Sort v0 Z B W h0 (by omega))
  have HMC := Lib.hid (fun (Z : List Int) (hZ : Z.length ≤ 200) (v0 : Value) B W (h0 : Ow cI 2 B W v0 Z) => slices_Compact v0 Z B W h0 (by omega))
  clear hb0 hb1 hk0 hk1 hb2 hk2 h h' hc hc'
  go_enter Tryz.func6, Tryz.ntmps6
  go_upto_region 1 with fail
  generalize World.alloc (World.alloc (w.alloc _) _) _ = W at *
  have k0 := HK0.out.cell
  have l0 := HK0.out.lt
  have k1 := HK1.out.cell
  have l1 := HK1.out.lt
  go_wp2_with fail
  refine (HT.out _ HB.out).mono ?_
  rintro e w1 ⟨rfl, hb⟩
  have HQ0 := Lib.hid (HK0.out.below hb l0)
  have HQ1 := Lib.hid (HK1.out.below hb l1)
  have HQ2 := Lib.hid (HK2.out.below hb HK2.out.lt)
  have HB1 := Lib.hid (bthen HB.out hb)
  clear k0 k1 hb l0 l1
  have k1 := HQ1.out.cell
  have l1 := HQ1.out.lt
  go_wp2_with fail
  refine (HU.out _ HB1.out).mono ?_
  rintro e w2 ⟨rfl, hb⟩
  have HR0 := Lib.hid (HQ0.out.below hb HQ0.out.lt)
  have HR1 := Lib.hid (HQ1.out.below hb l1)
  have HR2 := Lib.hid (HQ2.out.below hb HQ2.out.lt)
  have HB2 := Lib.hid (bthen HB1.out hb)
  clear k1 hb l1
  have k0 := HR0.out.cell
  have l0 := HR0.out.lt
  have k1 := HR1.out.cell
  have l1 := HR1.out.lt
  cases bt
  · cases bu
    · go_wp2_with fail
      refine (HCC.out _ HB2.out).mono ?_
      rintro e w3 ⟨r0, rfl, ho, hb⟩
      have hba := below_alloc' w2 (.cells #[.slice A xs.length c, .slice A' ys.length c'] 24)
      have hbb := hba.trans (hb.mono hba.size)
      have HP2 := Lib.hid (HR2.out.below hbb HR2.out.lt)
      have HB3 := Lib.hid (bthen HB2.out hbb)
      have hsz := HR2.out.lt
      have ho3 : Ow cI 2 (w.heap.size + 3) w3 r0 [xs, ys].flatten := ho.mono (by have := size_alloc' w2 (.cells #[.slice A xs.length c, .slice A' ys.length c'] 24); omega)
      rw [show [xs, ys].flatten = xs ++ ys by simp] at ho3
      have HS := Lib.hid (HML.out (xs ++ ys) (by simp; omega) r0 _ _ ho3)
      clear k0 k1 l0 l1 ho hb hba hbb ho3
      go_wp2_with fail
      refine HS.out.mono ?_
      rintro e w4 ⟨rfl, ho, hb⟩
      have HP3 := Lib.hid (HP2.out.below hb (by omega))
      have HB4 := Lib.hid (HB3.out.trans (hb.mono (by omega)))
      have HK := Lib.hid (HMC.out _ (by rw [List.length_mergeSort]; simp; omega) r0 _ _ ho)
      clear ho hb
      go_wp2_with fail
      refine HK.out.mono ?_
      rintro e w5 ⟨r, rfl, ho, hb⟩
      have HP4 := Lib.hid (HP3.out.below hb (by omega))
      have HB5 := Lib.hid (HB4.out.trans (hb.mono (by omega)))
      have hE : Lib.compactUpTo ((xs ++ ys).mergeSort fun x y => decide (x ≤ y)).toArray ((xs ++ ys).mergeSort fun x y => decide (x ≤ y)).length = mtR false xs false ys := by rw [← HE3.out, List.length_mergeSort]; rfl
      rw [hE] at ho
      obtain ⟨Ar, cr, rfl⟩ := ho.opn
      have Z1 := Lib.hid (show Ow cI 2 (w.heap.size + 3) w5 _ _ from ho)
      have k2 := HP4.out.cell
      have f2 := HP4.out.frozen
      have l2 := HP4.out.lt
      clear ho hb hE
      go_wp2
      refine bodyPost_ret (v := .tuple #[.agg #[.bool false, .slice Ar (mtR false xs false ys).length cr], .int .i64 0]) (by simp [results, Tryz.results6, go_sem, k2, f2, l2]) rfl ⟨_, rfl, ?_, ?_⟩
      · exact ((Z1.out.setBelow (p := ⟨w.heap.size + 2, 0, none⟩) (Nat.lt_succ_self _) _).setBelow (p := ⟨w.heap.size + 2, 1, none⟩) (Nat.lt_succ_self _) _).mono (show w.heap.size ≤ w.heap.size + 3 by omega)
      · exact (HB5.out.setCell (by show w.heap.size ≤ w.heap.size + 2; omega) _).setCell (by show w.heap.size ≤ w.heap.size + 2; omega) _
    · go_wp2_with fail
      refine (HS2.out _ HB2.out).mono ?_
      rintro e w3 ⟨r, rfl, ho, hb⟩
      obtain ⟨Ar, cr, rfl⟩ := ho.opn
      have q2 := HR2.out.below hb HR2.out.lt
      have hsz := HR2.out.lt
      have Z1 := Lib.hid (show Ow cI 2 (w.heap.size + 3) w3 _ _ from ho.mono hsz)
      have HB3 := Lib.hid (bthen HB2.out hb)
      clear k0 k1 hb ho
      have k2 := q2.cell
      have f2 := q2.frozen
      have l2 := q2.lt
      clear q2
      go_wp2
      refine bodyPost_ret (v := .tuple #[.agg #[.bool true, .slice Ar (shr ys xs false).length cr], .int .i64 0]) (by simp [results, Tryz.results6, go_sem, k2, f2, l2]) rfl ⟨_, rfl, ?_, ?_⟩
      · rw [← HE2.out]
        exact ((Z1.out.setBelow (p := ⟨w.heap.size + 2, 0, none⟩) (Nat.lt_succ_self _) _).setBelow (p := ⟨w.heap.size + 2, 1, none⟩) (Nat.lt_succ_self _) _).mono (show w.heap.size ≤ w.heap.size + 3 by omega)
      · exact (HB3.out.setCell (by show w.heap.size ≤ w.heap.size + 2; omega) _).setCell (by show w.heap.size ≤ w.heap.size + 2; omega) _
  · go_wp2_with fail
    refine (HS1.out _ HB2.out).mono ?_
    rintro e w3 ⟨r, rfl, ho, hb⟩
    obtain ⟨Ar, cr, rfl⟩ := ho.opn
    have q2 := HR2.out.below hb HR2.out.lt
    have hsz := HR2.out.lt
    have Z1 := Lib.hid (show Ow cI 2 (w.heap.size + 3) w3 _ _ from ho.mono hsz)
    have HB3 := Lib.hid (bthen HB2.out hb)
    clear k0 k1 hb ho
    have k2 := q2.cell
    have f2 := q2.frozen
    have l2 := q2.lt
    clear q2
    go_wp2
    refine bodyPost_ret (v := .tuple #[.agg #[.bool true, .slice Ar (shr xs ys bu).length cr], .int .i64 0]) (by simp [results, Tryz.results6, go_sem, k2, f2, l2]) rfl ⟨_, rfl, ?_, ?_⟩
    · rw [← HE1.out]
      exact ((Z1.out.setBelow (p := ⟨w.heap.size + 2, 0, none⟩) (Nat.lt_succ_self _) _).setBelow (p := ⟨w.heap.size + 2, 1, none⟩) (Nat.lt_succ_self _) _).mono (show w.heap.size ≤ w.heap.size + 3 by omega)
    · exact (HB3.out.setCell (by show w.heap.size ≤ w.heap.size + 2; omega) _).setCell (by show w.heap.size ≤ w.heap.size + 2; omega) _
end Go.Proofs.YtjpgiamblbgkpaaGreat

/- Contracts of chapter 32: the row of a formula with two parts, of the reference. -/
import Derived.Test.Ytbejakkcdbhmaaa32s
namespace Go.Proofs.Ytbejakkcdbhmaaa
open Go.RowKit
set_option linter.unusedVariables false
set_option linter.unusedSimpArgs false
set_option maxRecDepth 100000 in
theorem spec_l32Row_and (a b : Fm) (iha : ∀ (v : Value) (w : World), Sl cN w v (enc a) → Calls Try.prog 122 #[v] w fun e w' => ∃ u, e = .returned u ∧ Ow cB 4 w.heap.size w' u (row a) ∧ Below w.heap.size w w')
    (ihb : ∀ (v : Value) (w : World), Sl cN w v (enc b) → Calls Try.prog 122 #[v] w fun e w' => ∃ u, e = .returned u ∧ Ow cB 4 w.heap.size w' u (row b) ∧ Below w.heap.size w w')
    (v : Value) (w : World) (h : Sl cN w v (enc (.bin .and a b))) (hl : (enc (.bin .and a b)).length ≤ 1048576) :
    Calls Try.prog 122 #[v] w fun e w' => ∃ u, e = .returned u ∧ Ow cB 4 w.heap.size w' u (row (.bin .and a b)) ∧ Below w.heap.size w w' := by
  rw [enc_bin] at h hl
  have hleft := fun W (hW : Sl cN W v ((BK.and.i, (0 : Int)) :: (enc a ++ (enc b ++ [])))) => spec_l02Left v _ a _ W hW hl
  have hright := fun W (hW : Sl cN W v ((BK.and.i, (0 : Int)) :: (enc a ++ (enc b ++ [])))) => spec_l02Right v _ a b W (by simpa using hW) (by simpa using hl)
  have HL := Lib.hid hleft; clear hleft
  have HR := Lib.hid hright; clear hright
  obtain ⟨A, c, rfl⟩ := h.opn
  obtain ⟨bb, o, rfl, hb, hc0, hc1⟩ := h.atN0
  simp only [BK.i] at hc0
  have hL0 : 0 < ((BK.and.i, (0 : Int)) :: (enc a ++ (enc b ++ []))).length := by simp
  generalize hxs : ((BK.and.i, (0 : Int)) :: (enc a ++ (enc b ++ []))) = xs at *
  clear hxs
  generalize xs.length = L at *
  have HIA := Lib.hid iha; clear iha
  have HIB := Lib.hid ihb; clear ihb
  have Hh := Lib.hid h; clear h
  go_enter Try.func122, Try.ntmps122
  go_wp2_with (at_make; refine stopHere ?_)
  refine goHere ?_
  refine mk_full (K := cB) w ty_bool rfl _ _ rfl w.heap.size 61 false rfl rfl rfl (by omega) (Nat.le_refl _) ?_
  intro w1 ho1 hg1 hb1 hsz1
  have hd0 : w1.cell? ⟨bb, o, none⟩ = some (.int .i64 2) := (hb1.cell (p := ⟨bb, o, none⟩) hb).trans hc0
  go_wp2_with fail
  refine (HL.out _ (Hh.out.below hb1)).mono ?_
  rintro e w2 ⟨u1, rfl, hs1, rfl⟩
  go_wp2_with fail
  refine (HIA.out _ _ hs1).mono ?_
  rintro e w2 ⟨x, rfl, hx, hb2⟩
  have hB2 : Below w.heap.size w w2 := bthen hb1 hb2
  go_wp2_with fail
  refine (HR.out _ (Hh.out.below hB2)).mono ?_
  rintro e w3 ⟨u2, rfl, hs2, rfl⟩
  go_wp2_with fail
  refine (HIB.out _ _ hs2).mono ?_
  rintro e w3 ⟨y, rfl, hy, hb3⟩
  have hB3 : Below w.heap.size w w3 := bthen hB2 hb3
  have ho3 := (ho1.below hb2).below hb3
  have hx3 := hx.below hb3
  have hy3 := hy.mono hb2.size
  have hd3 : w3.cell? ⟨bb, o, none⟩ = some (.int .i64 2) := (hB3.cell (p := ⟨bb, o, none⟩) hb).trans hc0
  obtain ⟨Ax, cx, rfl⟩ := hx.opn
  obtain ⟨Ay, cy, rfl⟩ := hy.opn
  have hsz3 := hb3.size
  have hsz2 := hb2.size
  clear hx hy ho1 hb1 hb2 hb3 hB2 hs1 hs2 hd0 hg1 HL HR HIA HIB Hh hc0 hc1
  rw [row_length] at hx3 hy3 ⊢
  rw [row_length]
  go_wp2
  go_loopw [10] (fun i wr => ∃ j : Nat, j ≤ 61 ∧ i = .int .i64 j ∧ Ow cB 4 w.heap.size wr (.slice (some ⟨w.heap.size, 0, none⟩) 61 61) ((List.range j).map (rk (.bin .and a b) 0) ++ List.replicate (61 - j) false) ∧ Ow cB 4 w1.heap.size wr (.slice Ax 61 cx) (row a) ∧ Ow cB 4 w1.heap.size wr (.slice Ay 61 cy) (row b) ∧ wr.cell? ⟨bb, o, none⟩ = some (.int .i64 2) ∧ Below w.heap.size w wr) (fun i _ => 61 - (intOf i).toNat)
  case atStart => exact ⟨0, by omega, rfl, ho3, hx3, hy3, hd3, hB3⟩
  case round =>
    obtain ⟨j, hj, rfl, ho, hx, hy, hd, hb⟩ := hrel
    clear ho3 hx3 hy3 hd3 hB3
    by_cases hlt : j < 61
    · obtain ⟨gx, rfl, hgx, -⟩ := hx.head (by rw [row_length]; omega)
      obtain ⟨gy, rfl, hgy, -⟩ := hy.head (by rw [row_length]; omega)
      obtain ⟨hcx, -, -, -⟩ := hx.at1 rfl (j := j) (by rw [row_length]; exact hlt) rfl
      obtain ⟨hcy, -, -, -⟩ := hy.at1 rfl (j := j) (by rw [row_length]; exact hlt) rfl
      rw [row_get] at hcx hcy
      obtain ⟨hc1, hf1, -, hg1'⟩ := ho.at1 rfl (j := j) (by simp; omega) rfl
      obtain ⟨old, hc1⟩ : ∃ old, wr.cell? ⟨w.heap.size, j, none⟩ = some old := ⟨_, hc1⟩
      have hset := ho.set1 (j := j) (x := rk (.bin .and a b) 0 j) (u := .bool (rk (.bin .and a b) 0 j)) rfl rfl (by simp; omega)
      rw [set_map_replicate _ _ _ _ hlt] at hset
      have hne : ¬ w.heap.size = bb := by omega
      have HS := Lib.hid hset
      have HX := Lib.hid (hx.setBelow (p := ⟨w.heap.size, j, none⟩) hsz1 (.bool (rk (.bin .and a b) 0 j)))
      have HY := Lib.hid (hy.setBelow (p := ⟨w.heap.size, j, none⟩) hsz1 (.bool (rk (.bin .and a b) 0 j)))
      have HB := Lib.hid (hb.setCell (p := ⟨w.heap.size, j, none⟩) (Nat.le_refl _) (.bool (rk (.bin .and a b) 0 j)))
      have HD : Hid ((wr.setCell ⟨w.heap.size, j, none⟩ (.bool (rk (.bin .and a b) 0 j))).cell? ⟨bb, o, none⟩ = some (.int .i64 2)) := by
        show _ = _
        rw [World.cell?_setCell_other _ _ _ _ (by intro e; injection e with e _; exact hne e)]
        exact hd
      have HV : Hid (rk (.bin .and a b) 0 j = (rk a 0 j && rk b 0 j)) := Lib.hid rfl
      clear ho hx hy hb hset
      generalize rk (.bin .and a b) 0 j = q at *
      by_cases hr : rk a 0 j = true
      · rw [hr] at hcx HV
        clear hr
        by_cases hr2 : rk b 0 j = true
        · rw [hr2] at hcy HV
          clear hr2
          obtain rfl := HV.out
          go_wp2
          go_roundw
          case rel => exact ⟨j + 1, by omega, by go_num, HS.out, HX.out, HY.out, HD.out, HB.out⟩
          case measure => simp [intOf]; omega
        · rw [Bool.not_eq_true] at hr2
          rw [hr2] at hcy HV
          clear hr2
          obtain rfl := HV.out
          go_wp2
          go_roundw
          case rel => exact ⟨j + 1, by omega, by go_num, HS.out, HX.out, HY.out, HD.out, HB.out⟩
          case measure => simp [intOf]; omega
      · rw [Bool.not_eq_true] at hr
        rw [hr] at hcx HV
        clear hr
        by_cases hr2 : rk b 0 j = true
        · rw [hr2] at hcy HV
          clear hr2
          obtain rfl := HV.out
          go_wp2
          go_roundw
          case rel => exact ⟨j + 1, by omega, by go_num, HS.out, HX.out, HY.out, HD.out, HB.out⟩
          case measure => simp [intOf]; omega
        · rw [Bool.not_eq_true] at hr2
          rw [hr2] at hcy HV
          clear hr2
          obtain rfl := HV.out
          go_wp2
          go_roundw
          case rel => exact ⟨j + 1, by omega, by go_num, HS.out, HX.out, HY.out, HD.out, HB.out⟩
          case measure => simp [intOf]; omega
    · obtain rfl : j = 61 := by omega
      rw [Nat.sub_self, List.replicate_zero, List.append_nil] at ho
      have HO : Hid (Ow cB 4 w.heap.size wr (.slice (some ⟨w.heap.size, 0, none⟩) 61 61) (row (.bin .and a b))) := ho
      have HB := Lib.hid hb
      clear ho hb hx hy hd
      go_wp2
      go_ret
      exact ⟨_, rfl, HO.out, HB.out⟩
set_option maxRecDepth 100000 in
theorem spec_l32Row_or (a b : Fm) (iha : ∀ (v : Value) (w : World), Sl cN w v (enc a) → Calls Try.prog 122 #[v] w fun e w' => ∃ u, e = .returned u ∧ Ow cB 4 w.heap.size w' u (row a) ∧ Below w.heap.size w w')
    (ihb : ∀ (v : Value) (w : World), Sl cN w v (enc b) → Calls Try.prog 122 #[v] w fun e w' => ∃ u, e = .returned u ∧ Ow cB 4 w.heap.size w' u (row b) ∧ Below w.heap.size w w')
    (v : Value) (w : World) (h : Sl cN w v (enc (.bin .or a b))) (hl : (enc (.bin .or a b)).length ≤ 1048576) :
    Calls Try.prog 122 #[v] w fun e w' => ∃ u, e = .returned u ∧ Ow cB 4 w.heap.size w' u (row (.bin .or a b)) ∧ Below w.heap.size w w' := by
  rw [enc_bin] at h hl
  have hleft := fun W (hW : Sl cN W v ((BK.or.i, (0 : Int)) :: (enc a ++ (enc b ++ [])))) => spec_l02Left v _ a _ W hW hl
  have hright := fun W (hW : Sl cN W v ((BK.or.i, (0 : Int)) :: (enc a ++ (enc b ++ [])))) => spec_l02Right v _ a b W (by simpa using hW) (by simpa using hl)
  have HL := Lib.hid hleft; clear hleft
  have HR := Lib.hid hright; clear hright
  obtain ⟨A, c, rfl⟩ := h.opn
  obtain ⟨bb, o, rfl, hb, hc0, hc1⟩ := h.atN0
  simp only [BK.i] at hc0
  have hL0 : 0 < ((BK.or.i, (0 : Int)) :: (enc a ++ (enc b ++ []))).length := by simp
  generalize hxs : ((BK.or.i, (0 : Int)) :: (enc a ++ (enc b ++ []))) = xs at *
  clear hxs
  generalize xs.length = L at *
  have HIA := Lib.hid iha; clear iha
  have HIB := Lib.hid ihb; clear ihb
  have Hh := Lib.hid h; clear h
  go_enter Try.func122, Try.ntmps122
  go_wp2_with (at_make; refine stopHere ?_)
  refine goHere ?_
  refine mk_full (K := cB) w ty_bool rfl _ _ rfl w.heap.size 61 false rfl rfl rfl (by omega) (Nat.le_refl _) ?_
  intro w1 ho1 hg1 hb1 hsz1
  have hd0 : w1.cell? ⟨bb, o, none⟩ = some (.int .i64 3) := (hb1.cell (p := ⟨bb, o, none⟩) hb).trans hc0
  go_wp2_with fail
  refine (HL.out _ (Hh.out.below hb1)).mono ?_
  rintro e w2 ⟨u1, rfl, hs1, rfl⟩
  go_wp2_with fail
  refine (HIA.out _ _ hs1).mono ?_
  rintro e w2 ⟨x, rfl, hx, hb2⟩
  have hB2 : Below w.heap.size w w2 := bthen hb1 hb2
  go_wp2_with fail
  refine (HR.out _ (Hh.out.below hB2)).mono ?_
  rintro e w3 ⟨u2, rfl, hs2, rfl⟩
  go_wp2_with fail
  refine (HIB.out _ _ hs2).mono ?_
  rintro e w3 ⟨y, rfl, hy, hb3⟩
  have hB3 : Below w.heap.size w w3 := bthen hB2 hb3
  have ho3 := (ho1.below hb2).below hb3
  have hx3 := hx.below hb3
  have hy3 := hy.mono hb2.size
  have hd3 : w3.cell? ⟨bb, o, none⟩ = some (.int .i64 3) := (hB3.cell (p := ⟨bb, o, none⟩) hb).trans hc0
  obtain ⟨Ax, cx, rfl⟩ := hx.opn
  obtain ⟨Ay, cy, rfl⟩ := hy.opn
  have hsz3 := hb3.size
  have hsz2 := hb2.size
  clear hx hy ho1 hb1 hb2 hb3 hB2 hs1 hs2 hd0 hg1 HL HR HIA HIB Hh hc0 hc1
  rw [row_length] at hx3 hy3 ⊢
  rw [row_length]
  go_wp2
  go_loopw [10] (fun i wr => ∃ j : Nat, j ≤ 61 ∧ i = .int .i64 j ∧ Ow cB 4 w.heap.size wr (.slice (some ⟨w.heap.size, 0, none⟩) 61 61) ((List.range j).map (rk (.bin .or a b) 0) ++ List.replicate (61 - j) false) ∧ Ow cB 4 w1.heap.size wr (.slice Ax 61 cx) (row a) ∧ Ow cB 4 w1.heap.size wr (.slice Ay 61 cy) (row b) ∧ wr.cell? ⟨bb, o, none⟩ = some (.int .i64 3) ∧ Below w.heap.size w wr) (fun i _ => 61 - (intOf i).toNat)
  case atStart => exact ⟨0, by omega, rfl, ho3, hx3, hy3, hd3, hB3⟩
  case round =>
    obtain ⟨j, hj, rfl, ho, hx, hy, hd, hb⟩ := hrel
    clear ho3 hx3 hy3 hd3 hB3
    by_cases hlt : j < 61
    · obtain ⟨gx, rfl, hgx, -⟩ := hx.head (by rw [row_length]; omega)
      obtain ⟨gy, rfl, hgy, -⟩ := hy.head (by rw [row_length]; omega)
      obtain ⟨hcx, -, -, -⟩ := hx.at1 rfl (j := j) (by rw [row_length]; exact hlt) rfl
      obtain ⟨hcy, -, -, -⟩ := hy.at1 rfl (j := j) (by rw [row_length]; exact hlt) rfl
      rw [row_get] at hcx hcy
      obtain ⟨hc1, hf1, -, hg1'⟩ := ho.at1 rfl (j := j) (by simp; omega) rfl
      obtain ⟨old, hc1⟩ : ∃ old, wr.cell? ⟨w.heap.size, j, none⟩ = some old := ⟨_, hc1⟩
      have hset := ho.set1 (j := j) (x := rk (.bin .or a b) 0 j) (u := .bool (rk (.bin .or a b) 0 j)) rfl rfl (by simp; omega)
      rw [set_map_replicate _ _ _ _ hlt] at hset
      have hne : ¬ w.heap.size = bb := by omega
      have HS := Lib.hid hset
      have HX := Lib.hid (hx.setBelow (p := ⟨w.heap.size, j, none⟩) hsz1 (.bool (rk (.bin .or a b) 0 j)))
      have HY := Lib.hid (hy.setBelow (p := ⟨w.heap.size, j, none⟩) hsz1 (.bool (rk (.bin .or a b) 0 j)))
      have HB := Lib.hid (hb.setCell (p := ⟨w.heap.size, j, none⟩) (Nat.le_refl _) (.bool (rk (.bin .or a b) 0 j)))
      have HD : Hid ((wr.setCell ⟨w.heap.size, j, none⟩ (.bool (rk (.bin .or a b) 0 j))).cell? ⟨bb, o, none⟩ = some (.int .i64 3)) := by
        show _ = _
        rw [World.cell?_setCell_other _ _ _ _ (by intro e; injection e with e _; exact hne e)]
        exact hd
      have HV : Hid (rk (.bin .or a b) 0 j = (rk a 0 j || rk b 0 j)) := Lib.hid rfl
      clear ho hx hy hb hset
      generalize rk (.bin .or a b) 0 j = q at *
      by_cases hr : rk a 0 j = true
      · rw [hr] at hcx HV
        clear hr
        by_cases hr2 : rk b 0 j = true
        · rw [hr2] at hcy HV
          clear hr2
          obtain rfl := HV.out
          go_wp2
          go_roundw
          case rel => exact ⟨j + 1, by omega, by go_num, HS.out, HX.out, HY.out, HD.out, HB.out⟩
          case measure => simp [intOf]; omega
        · rw [Bool.not_eq_true] at hr2
          rw [hr2] at hcy HV
          clear hr2
          obtain rfl := HV.out
          go_wp2
          go_roundw
          case rel => exact ⟨j + 1, by omega, by go_num, HS.out, HX.out, HY.out, HD.out, HB.out⟩
          case measure => simp [intOf]; omega
      · rw [Bool.not_eq_true] at hr
        rw [hr] at hcx HV
        clear hr
        by_cases hr2 : rk b 0 j = true
        · rw [hr2] at hcy HV
          clear hr2
          obtain rfl := HV.out
          go_wp2
          go_roundw
          case rel => exact ⟨j + 1, by omega, by go_num, HS.out, HX.out, HY.out, HD.out, HB.out⟩
          case measure => simp [intOf]; omega
        · rw [Bool.not_eq_true] at hr2
          rw [hr2] at hcy HV
          clear hr2
          obtain rfl := HV.out
          go_wp2
          go_roundw
          case rel => exact ⟨j + 1, by omega, by go_num, HS.out, HX.out, HY.out, HD.out, HB.out⟩
          case measure => simp [intOf]; omega
    · obtain rfl : j = 61 := by omega
      rw [Nat.sub_self, List.replicate_zero, List.append_nil] at ho
      have HO : Hid (Ow cB 4 w.heap.size wr (.slice (some ⟨w.heap.size, 0, none⟩) 61 61) (row (.bin .or a b))) := ho
      have HB := Lib.hid hb
      clear ho hb hx hy hd
      go_wp2
      go_ret
      exact ⟨_, rfl, HO.out, HB.out⟩
set_option maxRecDepth 100000 in
theorem spec_l32Row_imp (a b : Fm) (iha : ∀ (v : Value) (w : World), Sl cN w v (enc a) → Calls Try.prog 122 #[v] w fun e w' => ∃ u, e = .returned u ∧ Ow cB 4 w.heap.size w' u (row a) ∧ Below w.heap.size w w')
    (ihb : ∀ (v : Value) (w : World), Sl cN w v (enc b) → Calls Try.prog 122 #[v] w fun e w' => ∃ u, e = .returned u ∧ Ow cB 4 w.heap.size w' u (row b) ∧ Below w.heap.size w w')
    (v : Value) (w : World) (h : Sl cN w v (enc (.bin .imp a b))) (hl : (enc (.bin .imp a b)).length ≤ 1048576) :
    Calls Try.prog 122 #[v] w fun e w' => ∃ u, e = .returned u ∧ Ow cB 4 w.heap.size w' u (row (.bin .imp a b)) ∧ Below w.heap.size w w' := by
  rw [enc_bin] at h hl
  have hleft := fun W (hW : Sl cN W v ((BK.imp.i, (0 : Int)) :: (enc a ++ (enc b ++ [])))) => spec_l02Left v _ a _ W hW hl
  have hright := fun W (hW : Sl cN W v ((BK.imp.i, (0 : Int)) :: (enc a ++ (enc b ++ [])))) => spec_l02Right v _ a b W (by simpa using hW) (by simpa using hl)
  have HL := Lib.hid hleft; clear hleft
  have HR := Lib.hid hright; clear hright
  obtain ⟨A, c, rfl⟩ := h.opn
  obtain ⟨bb, o, rfl, hb, hc0, hc1⟩ := h.atN0
  simp only [BK.i] at hc0
  have hL0 : 0 < ((BK.imp.i, (0 : Int)) :: (enc a ++ (enc b ++ []))).length := by simp
  generalize hxs : ((BK.imp.i, (0 : Int)) :: (enc a ++ (enc b ++ []))) = xs at *
  clear hxs
  generalize xs.length = L at *
  have HIA := Lib.hid iha; clear iha
  have HIB := Lib.hid ihb; clear ihb
  have Hh := Lib.hid h; clear h
  go_enter Try.func122, Try.ntmps122
  go_wp2_with (at_make; refine stopHere ?_)
  refine goHere ?_
  refine mk_full (K := cB) w ty_bool rfl _ _ rfl w.heap.size 61 false rfl rfl rfl (by omega) (Nat.le_refl _) ?_
  intro w1 ho1 hg1 hb1 hsz1
  have hd0 : w1.cell? ⟨bb, o, none⟩ = some (.int .i64 4) := (hb1.cell (p := ⟨bb, o, none⟩) hb).trans hc0
  go_wp2_with fail
  refine (HL.out _ (Hh.out.below hb1)).mono ?_
  rintro e w2 ⟨u1, rfl, hs1, rfl⟩
  go_wp2_with fail
  refine (HIA.out _ _ hs1).mono ?_
  rintro e w2 ⟨x, rfl, hx, hb2⟩
  have hB2 : Below w.heap.size w w2 := bthen hb1 hb2
  go_wp2_with fail
  refine (HR.out _ (Hh.out.below hB2)).mono ?_
  rintro e w3 ⟨u2, rfl, hs2, rfl⟩
  go_wp2_with fail
  refine (HIB.out _ _ hs2).mono ?_
  rintro e w3 ⟨y, rfl, hy, hb3⟩
  have hB3 : Below w.heap.size w w3 := bthen hB2 hb3
  have ho3 := (ho1.below hb2).below hb3
  have hx3 := hx.below hb3
  have hy3 := hy.mono hb2.size
  have hd3 : w3.cell? ⟨bb, o, none⟩ = some (.int .i64 4) := (hB3.cell (p := ⟨bb, o, none⟩) hb).trans hc0
  obtain ⟨Ax, cx, rfl⟩ := hx.opn
  obtain ⟨Ay, cy, rfl⟩ := hy.opn
  have hsz3 := hb3.size
  have hsz2 := hb2.size
  clear hx hy ho1 hb1 hb2 hb3 hB2 hs1 hs2 hd0 hg1 HL HR HIA HIB Hh hc0 hc1
  rw [row_length] at hx3 hy3 ⊢
  rw [row_length]
  go_wp2
  go_loopw [10] (fun i wr => ∃ j : Nat, j ≤ 61 ∧ i = .int .i64 j ∧ Ow cB 4 w.heap.size wr (.slice (some ⟨w.heap.size, 0, none⟩) 61 61) ((List.range j).map (rk (.bin .imp a b) 0) ++ List.replicate (61 - j) false) ∧ Ow cB 4 w1.heap.size wr (.slice Ax 61 cx) (row a) ∧ Ow cB 4 w1.heap.size wr (.slice Ay 61 cy) (row b) ∧ wr.cell? ⟨bb, o, none⟩ = some (.int .i64 4) ∧ Below w.heap.size w wr) (fun i _ => 61 - (intOf i).toNat)
  case atStart => exact ⟨0, by omega, rfl, ho3, hx3, hy3, hd3, hB3⟩
  case round =>
    obtain ⟨j, hj, rfl, ho, hx, hy, hd, hb⟩ := hrel
    clear ho3 hx3 hy3 hd3 hB3
    by_cases hlt : j < 61
    · obtain ⟨gx, rfl, hgx, -⟩ := hx.head (by rw [row_length]; omega)
      obtain ⟨gy, rfl, hgy, -⟩ := hy.head (by rw [row_length]; omega)
      obtain ⟨hcx, -, -, -⟩ := hx.at1 rfl (j := j) (by rw [row_length]; exact hlt) rfl
      obtain ⟨hcy, -, -, -⟩ := hy.at1 rfl (j := j) (by rw [row_length]; exact hlt) rfl
      rw [row_get] at hcx hcy
      obtain ⟨hc1, hf1, -, hg1'⟩ := ho.at1 rfl (j := j) (by simp; omega) rfl
      obtain ⟨old, hc1⟩ : ∃ old, wr.cell? ⟨w.heap.size, j, none⟩ = some old := ⟨_, hc1⟩
      have hset := ho.set1 (j := j) (x := rk (.bin .imp a b) 0 j) (u := .bool (rk (.bin .imp a b) 0 j)) rfl rfl (by simp; omega)
      rw [set_map_replicate _ _ _ _ hlt] at hset
      have hne : ¬ w.heap.size = bb := by omega
      have HS := Lib.hid hset
      have HX := Lib.hid (hx.setBelow (p := ⟨w.heap.size, j, none⟩) hsz1 (.bool (rk (.bin .imp a b) 0 j)))
      have HY := Lib.hid (hy.setBelow (p := ⟨w.heap.size, j, none⟩) hsz1 (.bool (rk (.bin .imp a b) 0 j)))
      have HB := Lib.hid (hb.setCell (p := ⟨w.heap.size, j, none⟩) (Nat.le_refl _) (.bool (rk (.bin .imp a b) 0 j)))
      have HD : Hid ((wr.setCell ⟨w.heap.size, j, none⟩ (.bool (rk (.bin .imp a b) 0 j))).cell? ⟨bb, o, none⟩ = some (.int .i64 4)) := by
        show _ = _
        rw [World.cell?_setCell_other _ _ _ _ (by intro e; injection e with e _; exact hne e)]
        exact hd
      have HV : Hid (rk (.bin .imp a b) 0 j = (!rk a 0 j || rk b 0 j)) := Lib.hid rfl
      clear ho hx hy hb hset
      generalize rk (.bin .imp a b) 0 j = q at *
      by_cases hr : rk a 0 j = true
      · rw [hr] at hcx HV
        clear hr
        by_cases hr2 : rk b 0 j = true
        · rw [hr2] at hcy HV
          clear hr2
          obtain rfl := HV.out
          go_wp2
          go_roundw
          case rel => exact ⟨j + 1, by omega, by go_num, HS.out, HX.out, HY.out, HD.out, HB.out⟩
          case measure => simp [intOf]; omega
        · rw [Bool.not_eq_true] at hr2
          rw [hr2] at hcy HV
          clear hr2
          obtain rfl := HV.out
          go_wp2
          go_roundw
          case rel => exact ⟨j + 1, by omega, by go_num, HS.out, HX.out, HY.out, HD.out, HB.out⟩
          case measure => simp [intOf]; omega
      · rw [Bool.not_eq_true] at hr
        rw [hr] at hcx HV
        clear hr
        by_cases hr2 : rk b 0 j = true
        · rw [hr2] at hcy HV
          clear hr2
          obtain rfl := HV.out
          go_wp2
          go_roundw
          case rel => exact ⟨j + 1, by omega, by go_num, HS.out, HX.out, HY.out, HD.out, HB.out⟩
          case measure => simp [intOf]; omega
        · rw [Bool.not_eq_true] at hr2
          rw [hr2] at hcy HV
          clear hr2
          obtain rfl := HV.out
          go_wp2
          go_roundw
          case rel => exact ⟨j + 1, by omega, by go_num, HS.out, HX.out, HY.out, HD.out, HB.out⟩
          case measure => simp [intOf]; omega
    · obtain rfl : j = 61 := by omega
      rw [Nat.sub_self, List.replicate_zero, List.append_nil] at ho
      have HO : Hid (Ow cB 4 w.heap.size wr (.slice (some ⟨w.heap.size, 0, none⟩) 61 61) (row (.bin .imp a b))) := ho
      have HB := Lib.hid hb
      clear ho hb hx hy hd
      go_wp2
      go_ret
      exact ⟨_, rfl, HO.out, HB.out⟩
theorem spec_l32Row (f : Fm) : ∀ (hv : f.novar = true) (hl : (enc f).length ≤ 1048576) (v : Value) (w : World), Sl cN w v (enc f) →
    Calls Try.prog 122 #[v] w fun e w' => ∃ u, e = .returned u ∧ Ow cB 4 w.heap.size w' u (row f) ∧ Below w.heap.size w w' := by
  induction f with
  | var s => intro hv; simp [Fm.novar] at hv
  | fls => intro hv hl v w h; exact spec_l32Row_fls v w h
  | un k a ih =>
    intro hv hl v w h
    have hl2 : (enc a).length ≤ 1048576 := by simp [enc] at hl; omega
    cases k with
    | box => exact spec_l32Row_box a (ih hv hl2) v w h hl
    | dia => exact spec_l32Row_dia a (ih hv hl2) v w h hl
  | bin k a b iha ihb =>
    intro hv hl v w h
    simp only [Fm.novar, Bool.and_eq_true] at hv
    have hl2 : (enc a).length ≤ 1048576 := by simp [enc] at hl; omega
    have hl3 : (enc b).length ≤ 1048576 := by simp [enc] at hl; omega
    cases k with
    | and => exact spec_l32Row_and a b (iha hv.1 hl2) (ihb hv.2 hl3) v w h hl
    | or => exact spec_l32Row_or a b (iha hv.1 hl2) (ihb hv.2 hl3) v w h hl
    | imp => exact spec_l32Row_imp a b (iha hv.1 hl2) (ihb hv.2 hl3) v w h hl
end Go.Proofs.Ytbejakkcdbhmaaa

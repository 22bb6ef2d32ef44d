/- Joined of several texts: 32n, 32o, 32p, 32q, 32u. -/
import Derived.Test.YtgcoohlakcncbaaGreatB2
namespace Go.Proofs.YtgcoohlakcncbaaGreat
open Go.RowKit
set_option linter.unusedVariables false
set_option linter.unusedSimpArgs false
/- Contracts of chapter 32: the Trace of a row and of a mask. -/
/-- the ranks below k of a Trace whose truth values are p -/
def trTo (p : Nat → Bool) (k : Nat) : List Int := ((List.range k).filter fun n => p n == !p 60).map fun (n : Nat) => (n : Int)
def trOf (p : Nat → Bool) : List Int := trTo p 61
theorem trTo_succ (p : Nat → Bool) (k : Nat) : trTo p (k + 1) = trTo p k ++ if (p k == !p 60) = true then [(k : Int)] else [] := by
  unfold trTo
  rw [List.range_succ, List.filter_append, List.map_append]
  congr 1
  cases h : (p k == !p 60) <;> simp [h]
theorem trTo_length (p : Nat → Bool) (k : Nat) : (trTo p k).length ≤ k := by
  unfold trTo
  rw [List.length_map]
  exact Nat.le_trans (List.length_filter_le _ _) (by simp)
set_option maxRecDepth 100000 in
theorem spec_l32Trace (v : Value) (p : Nat → Bool) (w : World) (h : Sl cB w v ((List.range 61).map p)) :
    Calls Tryz.prog 115 #[v] w fun e w' => ∃ u, e = .returned (.agg #[.bool (!p 60), u]) ∧ Ow cI 2 w.heap.size w' u (trOf p) ∧ Below w.heap.size w w' := by
  obtain ⟨A, c, rfl⟩ := h.opn
  obtain ⟨b, o, rfl, hb, hc60⟩ := h.atB (k := 60) (by simp)
  have hl : ((List.range 61).map p).length = 61 := by simp
  simp only [List.getElem_map, List.getElem_range] at hc60
  rw [hl]
  go_enter Tryz.func115, Tryz.ntmps115
  go_wp2
  have b0 : Blk (((w.alloc (.cells #[.bool false, .slice none 0 0] 55)).alloc (.cells #[] 2)).alloc (.cells #[.bool (!p 60), .slice (some ⟨w.heap.size + 1, 0, none⟩) 0 0] 55)) w.heap.size 55 #[.bool false, .slice none 0 0] := ((Blk.new w _ _).alloc _).alloc _
  have b1 : Blk (((w.alloc (.cells #[.bool false, .slice none 0 0] 55)).alloc (.cells #[] 2)).alloc (.cells #[.bool (!p 60), .slice (some ⟨w.heap.size + 1, 0, none⟩) 0 0] 55)) (w.heap.size + 1 + 1) 55 #[.bool (!p 60), .slice (some ⟨w.heap.size + 1, 0, none⟩) 0 0] := Blk.new' _ _ _ (by simp)
  have o0 : Ow cI 2 (w.heap.size + 1) (((w.alloc (.cells #[.bool false, .slice none 0 0] 55)).alloc (.cells #[] 2)).alloc (.cells #[.bool (!p 60), .slice (some ⟨w.heap.size + 1, 0, none⟩) 0 0] 55)) (.slice (some ⟨w.heap.size + 1, 0, none⟩) 0 0) [] := (Ow.lit' [] (by simp) rfl rfl (Nat.le_refl _)).alloc _
  have hB0 : Below w.heap.size w (((w.alloc (.cells #[.bool false, .slice none 0 0] 55)).alloc (.cells #[] 2)).alloc (.cells #[.bool (!p 60), .slice (some ⟨w.heap.size + 1, 0, none⟩) 0 0] 55)) := (((Below.refl _ _).alloc (Nat.le_refl _) _).alloc (by simp) _).alloc (by simp <;> omega) _
  have B0 := Lib.hid b0
  have B1 := Lib.hid b1
  have O0 := Lib.hid o0
  have HB0 := Lib.hid hB0
  clear b0 b1 o0 hB0 hc60
  go_loopw [5] (fun i wr => ∃ (j : Nat) (lv : Value), j ≤ 61 ∧ i = .int .i64 j ∧ Ow cI 2 (w.heap.size + 1) wr lv (trTo p j) ∧ lv.ownBlock ≠ some (w.heap.size + 1 + 1) ∧ Blk wr (w.heap.size + 1 + 1) 55 #[.bool (!p 60), lv] ∧ Blk wr w.heap.size 55 #[.bool false, .slice none 0 0] ∧ Below w.heap.size w wr) (fun i _ => 61 - (intOf i).toNat)
  case atStart => exact ⟨0, _, by omega, rfl, O0.out, by simp [Value.ownBlock], B1.out, B0.out, HB0.out⟩
  case round =>
    obtain ⟨j, lv, hj, rfl, ho, hne, hk, hk0, hbw⟩ := hrel
    clear O0 B0 B1 HB0
    have hlen := trTo_length p j
    obtain ⟨A1, c1, rfl⟩ := ho.opn
    have glt := hk.lt
    have k1 := hk.cell
    have k2 := hk.frozen
    have HO := Lib.hid ho; have HK := Lib.hid hk; have HK0 := Lib.hid hk0; have HN := Lib.hid hne; have HBW := Lib.hid hbw
    clear ho hk hk0 hne hbw
    by_cases hlt : j < 61
    · obtain ⟨b', o', hA', hbl', hcj⟩ := (h.below HBW.out).atB (k := j) (by simp; omega)
      injection hA' with hA'
      injection hA' with h1 h2 _
      subst h1; subst h2
      simp only [List.getElem_map, List.getElem_range] at hcj
      have HS := Lib.hid (trTo_succ p j)
      by_cases hq : (p j == !p 60) = true
      · rw [hq, if_pos rfl] at HS
        go_wp2_with (at_builtin; refine stopHere ?_)
        refine goHere ?_
        refine ap_one (K := cI) _ ty_int64 rfl _ _ rfl (xs := trTo p j) rfl HO.out j rfl rfl (by omega) (by omega) ?_
        intro v1 w1 ho1 hg1 hb1 hat1
        have m1 := (HK.out.alloc (.cells #[.int .i64 j] 2)).grown hg1 (fun e => HN.out e.symm)
        have m0 := (HK0.out.alloc (.cells #[.int .i64 j] 2)).grown hg1 (HO.out.apart (.inl (by omega)))
        have hne1 : v1.ownBlock ≠ some (w.heap.size + 1 + 1) := by
          rcases hat1 with e | e
          · rw [e]; exact HN.out
          · rw [e]; intro e2; injection e2 with e2; omega
        have hbw1 : Below w.heap.size w w1 := HBW.out.trans (hb1.mono (by omega))
        obtain ⟨A2, c2, rfl⟩ := ho1.opn
        have el : (trTo p j ++ [(j : Int)]).length = (trTo p j).length + 1 := by simp
        rw [el] at ho1 hne1 ⊢
        clear k1 k2 el
        have k1 := m1.cell
        have k2 := m1.frozen
        have M1 := Lib.hid m1; have M0 := Lib.hid m0; have N1 := Lib.hid hne1; have O1 := Lib.hid ho1; have W1 := Lib.hid hbw1
        clear m1 m0 hne1 ho1 hbw1 hg1 hb1 hat1
        go_wp2
        go_roundw
        case rel =>
          refine ⟨j + 1, _, by omega, by go_num, by rw [HS.out]; exact O1.out.far N1.out _, N1.out, ?_, M0.out.far (by show w.heap.size ≠ w.heap.size + 1 + 1; omega) _, W1.out.setCell (by show w.heap.size ≤ w.heap.size + 1 + 1; omega) _⟩
          exact M1.out.set_ 1 _
        case measure => simp [intOf]; omega
      · rw [if_neg hq] at HS
        rw [Bool.not_eq_true] at hq
        go_wp2
        go_roundw
        case rel => exact ⟨j + 1, _, by omega, by go_num, by rw [HS.out, List.append_nil]; exact HO.out, HN.out, HK.out, HK0.out, HBW.out⟩
        case measure => simp [intOf]; omega
    · obtain rfl : j = 61 := by omega
      clear h
      have k3 := HK0.out.cell
      have k4 := HK0.out.frozen
      have glt0 := HK0.out.lt
      go_wp2
      refine bodyPost_ret (v := .agg #[.bool (!p 60), .slice A1 (trTo p 61).length c1]) (by simp [results, Tryz.results115, go_sem, k1, k2, k3, k4]) rfl ⟨_, rfl, ?_, ?_⟩
      · exact ((HO.out.setBelow (by show w.heap.size < w.heap.size + 1; omega) _).setBelow (by show w.heap.size < w.heap.size + 1; omega) _).mono (by omega)
      · exact (HBW.out.setCell (Nat.le_refl _) _).setCell (Nat.le_refl _) _
/- Contracts of chapter 32: the Trace of a mask, of the program. -/
theorem testBit_val (m i : Nat) (hm : m < 9223372036854775808) : bits .and .i64 ((m : Int) / 2 ^ i) 1 = if m.testBit i then 1 else 0 := by
  have h := i64_and_nat (m / 2 ^ i) 1 (Nat.lt_of_le_of_lt (Nat.div_le_self _ _) hm) (by decide)
  rw [div_cast]
  have h2 : ((1 : Nat) : Int) = 1 := rfl
  rw [h2] at h
  rw [h, Nat.and_one_is_mod, Nat.testBit_eq_decide_div_mod_eq]
  have := Nat.mod_lt (m / 2 ^ i) (show 0 < 2 by decide)
  by_cases hq : m / 2 ^ i % 2 = 1
  · rw [hq]; simp
  · rw [show m / 2 ^ i % 2 = 0 by omega]; simp
set_option maxRecDepth 100000 in
theorem impl_traceOf_fin (p : Nat → Bool) (w : World) (hp : p 60 = false) :
    Calls Tryz.prog 110 #[.int .i64 (msk p 61 : Nat)] w fun e w' => ∃ u, e = .returned (.agg #[.bool true, u]) ∧ Ow cI 2 w.heap.size w' u (trOf p) ∧ Below w.heap.size w w' := by
  have hlt := msk_lt p 61
  have hv : bits .and .i64 ((msk p 61 : Nat) / 1152921504606846976) 1 = 0 := by
    have h1 := testBit_val (msk p 61) 60 (by omega)
    rw [msk_testBit, hp] at h1
    simpa using h1
  have hr : Hid (msk (fun n => p n) 61 = msk (fun n => p n == !p 60) 61) := by
    show _ = _
    exact msk_congr _ _ _ fun i hi => by rw [hp]; cases p i <;> rfl
  have hlt2 := msk_lt (fun n => p n == !p 60) 61
  have HP := Lib.hid hp; clear hp
  go_enter Tryz.func110, Tryz.ntmps110
  go_wp2
  have b0 : Blk ((w.alloc (.cells #[.bool false, .slice none 0 0] 55)).alloc (.cells #[.bool true, .slice none 0 0] 55)) w.heap.size 55 #[.bool false, .slice none 0 0] := (Blk.new w _ _).alloc _
  have b1 : Blk ((w.alloc (.cells #[.bool false, .slice none 0 0] 55)).alloc (.cells #[.bool true, .slice none 0 0] 55)) (w.heap.size + 1) 55 #[.bool true, .slice none 0 0] := Blk.new' _ _ _ (by simp)
  have hB0 : Below w.heap.size w ((w.alloc (.cells #[.bool false, .slice none 0 0] 55)).alloc (.cells #[.bool true, .slice none 0 0] 55)) := ((Below.refl _ _).alloc (Nat.le_refl _) _).alloc (by simp) _
  have hS0 : w.heap.size + 2 ≤ ((w.alloc (.cells #[.bool false, .slice none 0 0] 55)).alloc (.cells #[.bool true, .slice none 0 0] 55)).heap.size := by simp
  have B0 := Lib.hid b0
  have B1 := Lib.hid b1
  have HB0 := Lib.hid hB0
  have S0 := Lib.hid hS0
  clear b0 b1 hB0 hS0 hv 
  go_loopw [15] (fun i wr => ∃ (j : Nat) (lv : Value), j ≤ 61 ∧ i = .int .i64 j ∧ Ow cI 2 (w.heap.size + 2) wr lv (trTo p j) ∧ Blk wr (w.heap.size + 1) 55 #[.bool true, lv] ∧ Blk wr w.heap.size 55 #[.bool false, .slice none 0 0] ∧ Below w.heap.size w wr ∧ w.heap.size + 2 ≤ wr.heap.size) (fun i _ => 61 - (intOf i).toNat)
  case atStart => exact ⟨0, _, by omega, rfl, Ow.nil _ _, B1.out, B0.out, HB0.out, S0.out⟩
  case round =>
    obtain ⟨j, lv, hj, rfl, ho, hk, hk0, hbw, hsz⟩ := hrel
    clear B0 B1 HB0 S0
    have hlen := trTo_length p j
    obtain ⟨A1, c1, rfl⟩ := ho.opn
    have k1 := hk.cell
    have k2 := hk.frozen
    have HO := Lib.hid ho; have HK := Lib.hid hk; have HK0 := Lib.hid hk0; have HBW := Lib.hid hbw
    clear ho hk hk0 hbw
    by_cases hlt1 : j < 61
    · have HS := Lib.hid (trTo_succ p j)
      have hf := testBit_form (msk p 61) j (by omega)
      have ht : (msk p 61).testBit j = (p j == !p 60) := by rw [show msk p 61 = msk (fun n => p n == !p 60) 61 from hr.out]; rw [msk_testBit, decide_eq_true hlt1, Bool.true_and]
      by_cases hq : (p j == !p 60) = true
      · rw [hq, if_pos rfl] at HS
        rw [ht, hq] at hf
        clear ht hq
        go_wp2_with (at_builtin; refine stopHere ?_)
        refine goHere ?_
        refine ap_one (K := cI) _ ty_int64 rfl _ _ rfl (xs := trTo p j) rfl HO.out j rfl rfl (by omega) (by omega) ?_
        intro v1 w1 ho1 hg1 hb1 hat1
        have m1 := (HK.out.alloc (.cells #[.int .i64 j] 2)).grown hg1 (HO.out.apart (.inl (by omega)))
        have m0 := (HK0.out.alloc (.cells #[.int .i64 j] 2)).grown hg1 (HO.out.apart (.inl (by omega)))
        have hbw1 : Below w.heap.size w w1 := HBW.out.trans (hb1.mono (by omega))
        have hsz1 := hb1.size
        obtain ⟨A2, c2, rfl⟩ := ho1.opn
        have el : (trTo p j ++ [(j : Int)]).length = (trTo p j).length + 1 := by simp
        rw [el] at ho1 ⊢
        clear k1 k2 el
        have k1 := m1.cell
        have k2 := m1.frozen
        have M1 := Lib.hid m1; have M0 := Lib.hid m0; have O1 := Lib.hid ho1; have W1 := Lib.hid hbw1
        clear m1 m0 ho1 hbw1 hg1 hb1 hat1
        go_wp2
        go_roundw
        case rel =>
          refine ⟨j + 1, _, by omega, by go_num, by rw [HS.out]; exact O1.out.setBelow (by show w.heap.size + 1 < w.heap.size + 2; omega) _, ?_, M0.out.far (by show w.heap.size ≠ w.heap.size + 1; omega) _, W1.out.setCell (by show w.heap.size ≤ w.heap.size + 1; omega) _, by simp [World.setCell]; omega⟩
          exact M1.out.set_ 1 _
        case measure => simp [intOf]; omega
      · rw [if_neg hq] at HS
        rw [Bool.not_eq_true] at hq
        rw [ht, hq] at hf
        clear ht hq
        go_wp2
        go_roundw
        case rel => exact ⟨j + 1, _, by omega, by go_num, by rw [HS.out, List.append_nil]; exact HO.out, HK.out, HK0.out, HBW.out, by omega⟩
        case measure => simp [intOf]; omega
    · obtain rfl : j = 61 := by omega
      have k3 := HK0.out.cell
      have k4 := HK0.out.frozen
      go_wp2
      refine bodyPost_ret (v := .agg #[.bool true, .slice A1 (trTo p 61).length c1]) (by simp [results, Tryz.results110, go_sem, k1, k2, k3, k4]) rfl ⟨_, rfl, ?_, ?_⟩
      · exact ((HO.out.setBelow (by show w.heap.size < w.heap.size + 2; omega) _).setBelow (by show w.heap.size < w.heap.size + 2; omega) _).mono (by omega)
      · exact (HBW.out.setCell (Nat.le_refl _) _).setCell (Nat.le_refl _) _
set_option maxRecDepth 100000 in
theorem impl_traceOf_inf (p : Nat → Bool) (w : World) (hp : p 60 = true) :
    Calls Tryz.prog 110 #[.int .i64 (msk p 61 : Nat)] w fun e w' => ∃ u, e = .returned (.agg #[.bool false, u]) ∧ Ow cI 2 w.heap.size w' u (trOf p) ∧ Below w.heap.size w w' := by
  have hlt := msk_lt p 61
  have hv : bits .and .i64 ((msk p 61 : Nat) / 1152921504606846976) 1 = 1 := by
    have h1 := testBit_val (msk p 61) 60 (by omega)
    rw [msk_testBit, hp] at h1
    simpa using h1
  have hr : Hid (msk (fun n => !p n) 61 = msk (fun n => p n == !p 60) 61) := by
    show _ = _
    exact msk_congr _ _ _ fun i hi => by rw [hp]; cases p i <;> rfl
  have hneg : bits .andNot .i64 2305843009213693951 (msk p 61 : Nat) = ((msk (fun n => !p n) 61 : Nat) : Int) := by
    rw [← not_msk]; exact i64_andNot_nat 2305843009213693951 _ (by decide) (by omega)
  have hlt3 := msk_lt (fun n => !p n) 61
  have hlt2 := msk_lt (fun n => p n == !p 60) 61
  have HP := Lib.hid hp; clear hp
  go_enter Tryz.func110, Tryz.ntmps110
  go_wp2
  have b0 : Blk ((w.alloc (.cells #[.bool false, .slice none 0 0] 55)).alloc (.cells #[.bool false, .slice none 0 0] 55)) w.heap.size 55 #[.bool false, .slice none 0 0] := (Blk.new w _ _).alloc _
  have b1 : Blk ((w.alloc (.cells #[.bool false, .slice none 0 0] 55)).alloc (.cells #[.bool false, .slice none 0 0] 55)) (w.heap.size + 1) 55 #[.bool false, .slice none 0 0] := Blk.new' _ _ _ (by simp)
  have hB0 : Below w.heap.size w ((w.alloc (.cells #[.bool false, .slice none 0 0] 55)).alloc (.cells #[.bool false, .slice none 0 0] 55)) := ((Below.refl _ _).alloc (Nat.le_refl _) _).alloc (by simp) _
  have hS0 : w.heap.size + 2 ≤ ((w.alloc (.cells #[.bool false, .slice none 0 0] 55)).alloc (.cells #[.bool false, .slice none 0 0] 55)).heap.size := by simp
  have B0 := Lib.hid b0
  have B1 := Lib.hid b1
  have HB0 := Lib.hid hB0
  have S0 := Lib.hid hS0
  clear b0 b1 hB0 hS0 hv hneg
  go_loopw [15] (fun i wr => ∃ (j : Nat) (lv : Value), j ≤ 61 ∧ i = .int .i64 j ∧ Ow cI 2 (w.heap.size + 2) wr lv (trTo p j) ∧ Blk wr (w.heap.size + 1) 55 #[.bool false, lv] ∧ Blk wr w.heap.size 55 #[.bool false, .slice none 0 0] ∧ Below w.heap.size w wr ∧ w.heap.size + 2 ≤ wr.heap.size) (fun i _ => 61 - (intOf i).toNat)
  case atStart => exact ⟨0, _, by omega, rfl, Ow.nil _ _, B1.out, B0.out, HB0.out, S0.out⟩
  case round =>
    obtain ⟨j, lv, hj, rfl, ho, hk, hk0, hbw, hsz⟩ := hrel
    clear B0 B1 HB0 S0
    have hlen := trTo_length p j
    obtain ⟨A1, c1, rfl⟩ := ho.opn
    have k1 := hk.cell
    have k2 := hk.frozen
    have HO := Lib.hid ho; have HK := Lib.hid hk; have HK0 := Lib.hid hk0; have HBW := Lib.hid hbw
    clear ho hk hk0 hbw
    by_cases hlt1 : j < 61
    · have HS := Lib.hid (trTo_succ p j)
      have hf := testBit_form (msk (fun n => !p n) 61) j (by omega)
      have ht : (msk (fun n => !p n) 61).testBit j = (p j == !p 60) := by rw [show msk (fun n => !p n) 61 = msk (fun n => p n == !p 60) 61 from hr.out]; rw [msk_testBit, decide_eq_true hlt1, Bool.true_and]
      by_cases hq : (p j == !p 60) = true
      · rw [hq, if_pos rfl] at HS
        rw [ht, hq] at hf
        clear ht hq
        go_wp2_with (at_builtin; refine stopHere ?_)
        refine goHere ?_
        refine ap_one (K := cI) _ ty_int64 rfl _ _ rfl (xs := trTo p j) rfl HO.out j rfl rfl (by omega) (by omega) ?_
        intro v1 w1 ho1 hg1 hb1 hat1
        have m1 := (HK.out.alloc (.cells #[.int .i64 j] 2)).grown hg1 (HO.out.apart (.inl (by omega)))
        have m0 := (HK0.out.alloc (.cells #[.int .i64 j] 2)).grown hg1 (HO.out.apart (.inl (by omega)))
        have hbw1 : Below w.heap.size w w1 := HBW.out.trans (hb1.mono (by omega))
        have hsz1 := hb1.size
        obtain ⟨A2, c2, rfl⟩ := ho1.opn
        have el : (trTo p j ++ [(j : Int)]).length = (trTo p j).length + 1 := by simp
        rw [el] at ho1 ⊢
        clear k1 k2 el
        have k1 := m1.cell
        have k2 := m1.frozen
        have M1 := Lib.hid m1; have M0 := Lib.hid m0; have O1 := Lib.hid ho1; have W1 := Lib.hid hbw1
        clear m1 m0 ho1 hbw1 hg1 hb1 hat1
        go_wp2
        go_roundw
        case rel =>
          refine ⟨j + 1, _, by omega, by go_num, by rw [HS.out]; exact O1.out.setBelow (by show w.heap.size + 1 < w.heap.size + 2; omega) _, ?_, M0.out.far (by show w.heap.size ≠ w.heap.size + 1; omega) _, W1.out.setCell (by show w.heap.size ≤ w.heap.size + 1; omega) _, by simp [World.setCell]; omega⟩
          exact M1.out.set_ 1 _
        case measure => simp [intOf]; omega
      · rw [if_neg hq] at HS
        rw [Bool.not_eq_true] at hq
        rw [ht, hq] at hf
        clear ht hq
        go_wp2
        go_roundw
        case rel => exact ⟨j + 1, _, by omega, by go_num, by rw [HS.out, List.append_nil]; exact HO.out, HK.out, HK0.out, HBW.out, by omega⟩
        case measure => simp [intOf]; omega
    · obtain rfl : j = 61 := by omega
      have k3 := HK0.out.cell
      have k4 := HK0.out.frozen
      go_wp2
      refine bodyPost_ret (v := .agg #[.bool false, .slice A1 (trTo p 61).length c1]) (by simp [results, Tryz.results110, go_sem, k1, k2, k3, k4]) rfl ⟨_, rfl, ?_, ?_⟩
      · exact ((HO.out.setBelow (by show w.heap.size < w.heap.size + 2; omega) _).setBelow (by show w.heap.size < w.heap.size + 2; omega) _).mono (by omega)
      · exact (HBW.out.setCell (Nat.le_refl _) _).setCell (Nat.le_refl _) _
theorem impl_traceOf (p : Nat → Bool) (w : World) :
    Calls Tryz.prog 110 #[.int .i64 (msk p 61 : Nat)] w fun e w' => ∃ u, e = .returned (.agg #[.bool (!p 60), u]) ∧ Ow cI 2 w.heap.size w' u (trOf p) ∧ Below w.heap.size w w' := by
  cases hp : p 60
  · exact impl_traceOf_fin p w hp
  · exact impl_traceOf_inf p w hp
/- Contracts of TraceOf, of the program and of the reference. -/
theorem row_map (f : Fm) : row f = (List.range 61).map (rk f 0) := rfl
theorem impl_TraceOf_bad (v : Value) (xs : List Nd) (w : World) (h : Sl cN w v xs) (hl : xs.length ≤ 1048576) (hc : lcode [xs] ≠ 0) :
    Calls Tryz.prog 38 #[v] w fun e w' => e = .returned (.tuple #[.agg #[.bool false, .slice none 0 0], .int .i64 (lcode [xs])]) ∧ Below w.heap.size w w' := by
  obtain ⟨A, c, rfl⟩ := h.opn
  have H1 := Lib.hid (impl_lcode1 xs (w.alloc (.cells #[.bool false, .slice none 0 0] 55)) (h.alloc _) hl (w.heap.size + 1) (by simp))
  have hc' : (lcode [xs] != 0) = true := by simpa using hc
  generalize lcode [xs] = k at *
  clear h hc
  go_enter Tryz.func38, Tryz.ntmps38
  go_wp2_with fail
  refine H1.out.mono ?_
  rintro e w1 ⟨rfl, hb⟩
  obtain ⟨k1, k2, k3⟩ := kept_blk hb
  have HB : Hid (Below w.heap.size w w1) := Lib.hid (((Below.refl _ _).alloc (Nat.le_refl _) _).trans (hb.mono (by simp)))
  clear hb
  go_wp2
  refine bodyPost_ret (v := .tuple #[.agg #[.bool false, .slice none 0 0], .int .i64 k]) (by simp [results, Tryz.results38, go_sem, k1, k2, k3]) rfl ⟨rfl, ?_⟩
  exact (HB.out.setCell (Nat.le_refl _) _).setCell (Nat.le_refl _) _
theorem spec_TraceOf_bad (v : Value) (xs : List Nd) (w : World) (h : Sl cN w v xs) (hl : xs.length ≤ 1048576) (hc : lcode [xs] ≠ 0) :
    Calls Tryz.prog 41 #[v] w fun e w' => e = .returned (.tuple #[.agg #[.bool false, .slice none 0 0], .int .i64 (lcode [xs])]) ∧ Below w.heap.size w w' := by
  obtain ⟨A, c, rfl⟩ := h.opn
  have H1 := Lib.hid (spec_lcode1 xs (w.alloc (.cells #[.bool false, .slice none 0 0] 55)) (h.alloc _) hl (w.heap.size + 1) (by simp))
  have hc' : (lcode [xs] != 0) = true := by simpa using hc
  generalize lcode [xs] = k at *
  clear h hc
  go_enter Tryz.func41, Tryz.ntmps41
  go_wp2_with fail
  refine H1.out.mono ?_
  rintro e w1 ⟨rfl, hb⟩
  obtain ⟨k1, k2, k3⟩ := kept_blk hb
  have HB : Hid (Below w.heap.size w w1) := Lib.hid (((Below.refl _ _).alloc (Nat.le_refl _) _).trans (hb.mono (by simp)))
  clear hb
  go_wp2
  refine bodyPost_ret (v := .tuple #[.agg #[.bool false, .slice none 0 0], .int .i64 k]) (by simp [results, Tryz.results41, go_sem, k1, k2, k3]) rfl ⟨rfl, ?_⟩
  exact (HB.out.setCell (Nat.le_refl _) _).setCell (Nat.le_refl _) _
theorem impl_TraceOf_ok (v : Value) (f : Fm) (w : World) (h : Sl cN w v (enc f)) (hl : (enc f).length ≤ 40) (hc : lcode [enc f] = 0) :
    Calls Tryz.prog 38 #[v] w fun e w' => ∃ u, e = .returned (.tuple #[.agg #[.bool (!rk f 0 60), u], .int .i64 0]) ∧ Ow cI 2 w.heap.size w' u (trOf (rk f 0)) ∧ Below w.heap.size w w' := by
  have HR := Lib.hid (fun W (hW : Sl cN W v (enc f)) => impl_ranksOf f v 0 W (by decide) hW (by omega))
  obtain ⟨A, c, rfl⟩ := h.opn
  have H1 := impl_lcode1 (enc f) (w.alloc (.cells #[.bool false, .slice none 0 0] 55)) (h.alloc _) (by omega) (w.heap.size + 1) (by simp)
  rw [hc] at H1
  have H1 := Lib.hid H1
  have Hh := Lib.hid h
  clear h hc
  generalize (enc f).length = L at *
  go_enter Tryz.func38, Tryz.ntmps38
  go_wp2_with fail
  refine H1.out.mono ?_
  rintro e w1 ⟨rfl, hb⟩
  go_wp2_with fail
  refine (HR.out _ ((Hh.out.alloc _).below hb)).mono ?_
  rintro e w2 ⟨rfl, rfl⟩
  go_wp2_with fail
  refine (impl_traceOf (rk f 0) _).mono ?_
  rintro e w2 ⟨u, rfl, ho, hb2⟩
  obtain ⟨A2, c2, rfl⟩ := ho.opn
  obtain ⟨k1, k2, k3⟩ := kept_blk (bthen hb hb2)
  have hsz := hb.size
  simp at hsz
  have HO := Lib.hid ho
  have HB : Hid (Below w.heap.size w w2) := Lib.hid (((Below.refl _ _).alloc (Nat.le_refl _) _).trans ((bthen hb hb2).mono (by simp)))
  clear hb hb2 ho
  go_wp2
  refine bodyPost_ret (v := .tuple #[.agg #[.bool (!rk f 0 60), .slice A2 (trOf (rk f 0)).length c2], .int .i64 0]) (by simp [results, Tryz.results38, go_sem, k1, k2, k3]) rfl ⟨_, rfl, ?_, ?_⟩
  · exact ((HO.out.setBelow (by show w.heap.size < w1.heap.size; omega) _).setBelow (by show w.heap.size < w1.heap.size; omega) _).mono (by omega)
  · exact (HB.out.setCell (Nat.le_refl _) _).setCell (Nat.le_refl _) _
theorem spec_TraceOf_ok (v : Value) (f : Fm) (w : World) (h : Sl cN w v (enc f)) (hl : (enc f).length ≤ 40) (hc : lcode [enc f] = 0) (hv : f.novar = true) :
    Calls Tryz.prog 41 #[v] w fun e w' => ∃ u, e = .returned (.tuple #[.agg #[.bool (!rk f 0 60), u], .int .i64 0]) ∧ Ow cI 2 w.heap.size w' u (trOf (rk f 0)) ∧ Below w.heap.size w w' := by
  have HR := Lib.hid (fun W (hW : Sl cN W v (enc f)) => spec_l32Row f hv (by omega) v W hW)
  obtain ⟨A, c, rfl⟩ := h.opn
  have H1 := spec_lcode1 (enc f) (w.alloc (.cells #[.bool false, .slice none 0 0] 55)) (h.alloc _) (by omega) (w.heap.size + 1) (by simp)
  rw [hc] at H1
  have H1 := Lib.hid H1
  have Hh := Lib.hid h
  clear h hc
  generalize (enc f).length = L at *
  go_enter Tryz.func41, Tryz.ntmps41
  go_wp2_with fail
  refine H1.out.mono ?_
  rintro e w1 ⟨rfl, hb⟩
  go_wp2_with fail
  refine (HR.out _ ((Hh.out.alloc _).below hb)).mono ?_
  rintro e w2 ⟨r, rfl, hr, hb2⟩
  go_wp2_with fail
  refine (spec_l32Trace r (rk f 0) _ hr.sl).mono ?_
  rintro e w3 ⟨u, rfl, ho, hb3⟩
  obtain ⟨A2, c2, rfl⟩ := ho.opn
  obtain ⟨k1, k2, k3⟩ := kept_blk (bthen (bthen hb hb2) hb3)
  have hsz := (bthen hb hb2).size
  simp at hsz
  have HO := Lib.hid ho
  have HB : Hid (Below w.heap.size w w3) := Lib.hid (((Below.refl _ _).alloc (Nat.le_refl _) _).trans ((bthen (bthen hb hb2) hb3).mono (by simp)))
  clear hb hb2 hb3 ho hr
  go_wp2
  refine bodyPost_ret (v := .tuple #[.agg #[.bool (!rk f 0 60), .slice A2 (trOf (rk f 0)).length c2], .int .i64 0]) (by simp [results, Tryz.results41, go_sem, k1, k2, k3]) rfl ⟨_, rfl, ?_, ?_⟩
  · exact ((HO.out.setBelow (by show w.heap.size < w2.heap.size; omega) _).setBelow (by show w.heap.size < w2.heap.size; omega) _).mono (by omega)
  · exact (HB.out.setCell (Nat.le_refl _) _).setCell (Nat.le_refl _) _
/- Contracts of IsLetterlessTheorem, IsTrueSentence, FirstFalseRank and AreLetterlessEqual, of the program and of the reference. -/
/-- is it true at all ranks? -/
def allR (p : Nat → Bool) : Bool := (List.range 61).all p
theorem allR_msk (p : Nat → Bool) : (((msk p 61 : Nat) : Int) == 2305843009213693951) = allR p := by
  have h1 : allR p = true ↔ msk p 61 = 2305843009213693951 := by
    rw [allR, List.all_eq_true]
    constructor
    · intro h
      refine msk_ext 61 (msk_lt _ _) (by decide) fun i hi => ?_
      rw [msk_testBit, all_testBit i hi, h i (List.mem_range.2 hi), decide_eq_true hi]
      rfl
    · intro h i hi
      have hi' := List.mem_range.1 hi
      have := all_testBit i hi'
      rw [← h, msk_testBit] at this
      simp at this
      exact this.2
  rw [Bool.eq_iff_iff, beq_iff_eq, h1]
  omega
theorem allR_tr (p : Nat → Bool) : (!(!p 60) && decide ((trOf p).length = 0)) = allR p := by
  rw [Bool.eq_iff_iff, allR, List.all_eq_true]
  have hl : (trOf p).length = 0 ↔ ∀ n < 61, (p n == !p 60) = false := by
    unfold trOf trTo
    rw [List.length_map]
    constructor
    · intro h n hn
      have h2 := List.eq_nil_of_length_eq_zero h
      rw [List.filter_eq_nil_iff] at h2
      have := h2 n (List.mem_range.2 hn)
      simpa using this
    · intro h
      rw [List.filter_eq_nil_iff.2 (fun n hn => by rw [h n (List.mem_range.1 hn)]; simp)]
      rfl
  simp only [Bool.not_not, Bool.and_eq_true, decide_eq_true_eq, hl]
  constructor
  · rintro ⟨h1, h2⟩ n hn
    have := h2 n (List.mem_range.1 hn)
    rw [h1] at this
    cases hp : p n
    · rw [hp] at this; simp at this
    · rfl
  · intro h
    have h60 := h 60 (by simp)
    refine ⟨h60, fun n hn => ?_⟩
    rw [h60, h n (List.mem_range.2 hn)]
    rfl
/-- are two formulas true at the same ranks? -/
def alike (p q : Nat → Bool) : Bool := (List.range 61).all fun n => p n == q n
theorem alike_iff (p q : Nat → Bool) : alike p q = true ↔ ∀ n < 61, p n = q n := by
  unfold alike
  rw [List.all_eq_true]
  constructor
  · intro h n hn; simpa using h n (List.mem_range.2 hn)
  · intro h n hn; simpa using h n (List.mem_range.1 hn)
theorem alike_msk (p q : Nat → Bool) : (((msk p 61 : Nat) : Int) == (msk q 61 : Nat)) = alike p q := by
  rw [Bool.eq_iff_iff, beq_iff_eq, alike_iff]
  constructor
  · intro h n hn
    have h1 : msk p 61 = msk q 61 := by omega
    have := congrArg (fun m => m.testBit n) h1
    simpa [msk_testBit, hn] using this
  · intro h
    rw [msk_congr p q 61 h]
/-- the first rank that does not belong to a Trace, or -1 -/
def ffL : List Int → Int → Int
  | [], i => i
  | x :: t, i => if x = i then ffL t (i + 1) else i
def ffT (fin : Bool) (xs : List Int) : Int := if fin then ffL xs 0 else xs.headD (-1)
def ffI (p : Nat → Bool) : Int := match (List.range 61).find? fun n => !p n with | some n => (n : Int) | none => -1
theorem ffL_range (p : Nat → Bool) (m : Nat) : ∀ k : Nat, ffL (((List.range' k m).filter p).map fun (n : Nat) => (n : Int)) k = match (List.range' k m).find? fun n => !p n with | some n => (n : Int) | none => ((k + m : Nat) : Int) := by
  induction m with
  | zero => intro k; simp [ffL]
  | succ m ih =>
    intro k
    rw [List.range'_succ, List.filter_cons, List.find?_cons]
    cases hp : p k
    · simp only [Bool.false_eq_true, if_false, Bool.not_false]
      cases hf : (List.range' (k + 1) m).filter p with
      | nil => rfl
      | cons x t =>
        have hx : x ∈ (List.range' (k + 1) m).filter p := by rw [hf]; exact List.mem_cons_self
        have := (List.mem_range'_1.1 (List.mem_filter.1 hx).1).1
        simp only [List.map_cons, ffL]
        rw [if_neg (by omega)]
    · simp only [if_true, List.map_cons, ffL, Bool.not_true]
      have := ih (k + 1)
      rw [show ((k : Int) + 1) = ((k + 1 : Nat) : Int) from by omega, this]
      cases (List.range' (k + 1) m).find? fun n => !p n with
      | none => simp; omega
      | some n => rfl
theorem ff_tr (p : Nat → Bool) : ffT (!p 60) (trOf p) = ffI p := by
  unfold ffT ffI trOf trTo
  cases hp : p 60
  · simp only [Bool.not_false, if_true]
    have h1 := ffL_range p 61 0
    rw [← List.range_eq_range'] at h1
    have e : ((List.range 61).filter fun n => p n == true) = (List.range 61).filter p := by congr 1; funext n; cases p n <;> rfl
    rw [e]
    rw [show ((0 : Nat) : Int) = 0 from rfl] at h1
    rw [h1]
    cases hf : (List.range 61).find? fun n => !p n with
    | some n => rfl
    | none =>
      rw [List.find?_eq_none] at hf
      have := hf 60 (by simp)
      rw [hp] at this
      simp at this
  · simp only [Bool.not_true, Bool.false_eq_true, if_false]
    have e : ((List.range 61).filter fun n => p n == false) = (List.range 61).filter fun n => !p n := by congr 1; funext n; cases p n <;> rfl
    rw [e]
    have h1 : ((List.range 61).filter fun n => !p n).head? = (List.range 61).find? fun n => !p n := List.head?_filter
    cases hf : (List.range 61).filter fun n => !p n with
    | nil => rw [hf] at h1; simp at h1; rw [← h1]; rfl
    | cons x t => rw [hf] at h1; simp only [List.head?_cons] at h1; rw [← h1]; rfl
theorem ffI_range (p : Nat → Bool) : -1 ≤ ffI p ∧ ffI p ≤ 60 := by
  unfold ffI
  cases hf : (List.range 61).find? fun n => !p n with
  | none => simp
  | some n =>
    have := List.mem_range.1 (List.mem_of_find?_eq_some hf)
    simp
    omega
theorem impl_firstFalse (v : Value) (b : Bool) (xs : List Int) (w : World) (h : Sl cI w v xs) (hl : xs.length ≤ 1048576) :
    Calls Tryz.prog 123 #[.agg #[.bool b, v]] w fun e w' => e = .returned (.int .i64 (ffT b xs)) ∧ Below w.heap.size w w' := by
  obtain ⟨A, c, rfl⟩ := h.opn
  cases b
  · cases xs with
    | nil =>
      have E : Hid (ffT false [] = -1) := Lib.hid rfl
      simp only [List.length_nil]
      clear h
      go_enter Tryz.func123, Tryz.ntmps123
      go_wp2
      go_ret
      exact ⟨by rw [E.out]; rfl, (Below.refl _ _).alloc (Nat.le_refl _) _⟩
    | cons x t =>
      have E : Hid (ffT false (x :: t) = x) := Lib.hid rfl
      obtain ⟨b, o, rfl, hb, hc0⟩ := h.atI (k := 0) (by simp)
      simp only [List.getElem_cons_zero, Nat.add_zero] at hc0
      have hL : (((x :: t).length : Int) == 0) = false := by simp; omega
      have hL0 : 0 < (x :: t).length := by simp
      clear h
      generalize (x :: t).length = L at *
      go_enter Tryz.func123, Tryz.ntmps123
      go_wp2
      go_ret
      exact ⟨by rw [E.out]; rfl, (Below.refl _ _).alloc (Nat.le_refl _) _⟩
  · have E : Hid (ffT true xs = ffL xs 0) := Lib.hid rfl
    have hB : Below w.heap.size w (w.alloc (.cells #[.bool true, .slice A xs.length c] 55)) := (Below.refl _ _).alloc (Nat.le_refl _) _
    have h1 := h.alloc (.cells #[.bool true, .slice A xs.length c] 55)
    have b1 := Blk.new w 55 #[.bool true, .slice A xs.length c]
    have HB := Lib.hid hB; have H1 := Lib.hid h1; have B1 := Lib.hid b1
    clear hB h1 b1
    go_enter Tryz.func123, Tryz.ntmps123
    go_wp2
    go_loop [19] (fun i => ∃ j : Nat, j ≤ xs.length ∧ i = .int .i64 j ∧ ffL xs 0 = ffL (xs.drop j) j) (fun i => xs.length - (intOf i).toNat)
    case atStart => exact ⟨0, Nat.zero_le _, rfl, rfl⟩
    case round =>
      obtain ⟨j, hj, rfl, hh⟩ := hrel
      have Hh := Lib.hid hh; clear hh
      by_cases hlt : j < xs.length
      · obtain ⟨b, o, rfl, hb, hc0⟩ := H1.out.atI hlt
        have HD : Hid (ffL (xs.drop j) j = if xs[j] = (j : Int) then ffL (xs.drop (j + 1)) ((j + 1 : Nat) : Int) else (j : Int)) := by
          show _ = _
          rw [List.drop_eq_getElem_cons hlt, ffL, show ((j : Int) + 1) = ((j + 1 : Nat) : Int) from by omega]
        by_cases hx : xs[j] = (j : Int)
        · have hx' : (xs[j] != (j : Int)) = false := by rw [hx]; simp
          have HX := Lib.hid hx; clear hx
          go_wp2
          go_round
          case rel => exact ⟨j + 1, by omega, by go_num, by rw [Hh.out, HD.out, if_pos HX.out]⟩
          case measure => simp [intOf]; omega
        · have hx' : (xs[j] != (j : Int)) = true := by simpa using hx
          have HX := Lib.hid hx; clear hx
          go_wp2
          go_ret
          exact ⟨by rw [E.out, Hh.out, HD.out, if_neg HX.out]; rfl, HB.out⟩
      · obtain rfl : j = xs.length := by omega
        have HE : Hid (ffL (xs.drop xs.length) xs.length = xs.length) := by show _ = _; rw [List.drop_length]; rfl
        go_wp2
        go_ret
        exact ⟨by rw [E.out, Hh.out, HE.out]; rfl, HB.out⟩
/- Contracts of IsLetterlessTheorem, IsTrueSentence, FirstFalseRank and AreLetterlessEqual, of the program and of the reference. -/
set_option maxRecDepth 100000 in
theorem spec_fld0 (a b : Value) (w : World) : Sem.run Tryz.prog (Instr.field 55 (Value.agg #[a, b]) 0) w = .ok a w := by
  first | rfl | kernel_rfl | (simp [go_sem]; done)
set_option maxRecDepth 100000 in
theorem spec_fld1 (a b : Value) (w : World) : Sem.run Tryz.prog (Instr.field 55 (Value.agg #[a, b]) 1) w = .ok b w := by
  first | rfl | kernel_rfl | (simp [go_sem]; done)
theorem impl_IsLetterlessTheorem_bad (v : Value) (xs : List Nd) (w : World) (h : Sl cN w v xs) (hl : xs.length ≤ 1048576) (hc : lcode [xs] ≠ 0) :
    Calls Tryz.prog 48 #[v] w fun e w' => e = .returned (.tuple #[.bool false, .int .i64 (lcode [xs])]) ∧ Below w.heap.size w w' := by
  obtain ⟨A, c, rfl⟩ := h.opn
  have H1 := Lib.hid (impl_lcode1 xs w h hl _ rfl)
  have hc' : (lcode [xs] != 0) = true := by simpa using hc
  generalize lcode [xs] = k at *
  clear h hc
  go_enter Tryz.func48, Tryz.ntmps48
  go_wp2_with fail
  refine H1.out.mono ?_
  rintro e w1 ⟨rfl, hb⟩
  have HB := Lib.hid hb; clear hb
  go_wp2
  go_ret2
  exact ⟨rfl, HB.out⟩
theorem impl_IsLetterlessTheorem_ok (v : Value) (f : Fm) (w : World) (h : Sl cN w v (enc f)) (hl : (enc f).length ≤ 40) (hc : lcode [enc f] = 0) :
    Calls Tryz.prog 48 #[v] w fun e w' => e = .returned (.tuple #[.bool (allR (rk f 0)), .int .i64 0]) ∧ Below w.heap.size w w' := by
  have HR := Lib.hid (fun W (hW : Sl cN W v (enc f)) => impl_ranksOf f v 0 W (by decide) hW (by omega))
  obtain ⟨A, c, rfl⟩ := h.opn
  have H1 := impl_lcode1 (enc f) w h (by omega) _ rfl
  rw [hc] at H1
  have H1 := Lib.hid H1
  have Hh := Lib.hid h
  clear h hc
  generalize (enc f).length = L at *
  have E := Lib.hid (allR_msk (rk f 0))
  go_enter Tryz.func48, Tryz.ntmps48
  go_wp2_with fail
  refine H1.out.mono ?_
  rintro e w1 ⟨rfl, hb⟩
  go_wp2_with fail
  refine (HR.out _ (Hh.out.below hb)).mono ?_
  rintro e w2 ⟨rfl, rfl⟩
  have HB := Lib.hid hb; clear hb
  go_wp2
  go_ret2
  exact ⟨by rw [← E.out]; rfl, HB.out⟩
theorem impl_IsTrueSentence_bad (v : Value) (xs : List Nd) (w : World) (h : Sl cN w v xs) (hl : xs.length ≤ 1048576) (hc : lcode [xs] ≠ 0) :
    Calls Tryz.prog 49 #[v] w fun e w' => e = .returned (.tuple #[.bool false, .int .i64 (lcode [xs])]) ∧ Below w.heap.size w w' := by
  have H1 := Lib.hid (impl_TraceOf_bad v xs w h hl hc)
  have hc' : (lcode [xs] == 0) = false := by simpa using hc
  generalize lcode [xs] = k at *
  clear h hc
  go_enter Tryz.func49, Tryz.ntmps49
  go_wp2_with fail
  refine H1.out.mono ?_
  rintro e w1 ⟨rfl, hb⟩
  have HB := Lib.hid (hb.alloc hb.size (.cells #[.bool false, .slice none 0 0] 55)); clear hb
  go_wp2
  go_ret2
  exact ⟨rfl, HB.out⟩
theorem impl_IsTrueSentence_ok (v : Value) (f : Fm) (w : World) (h : Sl cN w v (enc f)) (hl : (enc f).length ≤ 40) (hc : lcode [enc f] = 0) :
    Calls Tryz.prog 49 #[v] w fun e w' => e = .returned (.tuple #[.bool (rk f 0 60), .int .i64 0]) ∧ Below w.heap.size w w' := by
  have H1 := Lib.hid (impl_TraceOf_ok v f w h hl hc)
  clear h hc
  go_enter Tryz.func49, Tryz.ntmps49
  go_wp2_with fail
  refine H1.out.mono ?_
  rintro e w1 ⟨u, rfl, ho, hb⟩
  obtain ⟨A3, c3, rfl⟩ := ho.opn
  have HB := Lib.hid (hb.alloc hb.size (.cells #[.bool (!rk f 0 60), .slice A3 (trOf (rk f 0)).length c3] 55)); clear hb ho
  go_wp2
  go_ret2
  exact ⟨by first | rfl | (simp only [Bool.not_not]; rfl), HB.out⟩
/-- what FirstFalseRank says -/
def ffOut (p : Nat → Bool) : Int × Int := if ffI p < 0 then (0, 4) else (ffI p, 0)
theorem ffI_some (p : Nat → Bool) (j : Nat) (hj : j < 61) (h : ∀ n < j, p n = true) (hp : p j = false) : ffI p = j := by
  have hf : (List.range 61).find? (fun n => !p n) = some j := by
    rw [List.find?_eq_some_iff_append]
    refine ⟨by rw [hp]; rfl, List.range j, List.range' (j + 1) (60 - j), ?_, fun a ha => by rw [h a (List.mem_range.1 ha)]; rfl⟩
    obtain ⟨d, hd⟩ : ∃ d, 60 - j = d := ⟨_, rfl⟩
    rw [hd, ← List.range'_succ, List.range_eq_range', List.range_eq_range', show (61 : Nat) = j + (d + 1) by omega]
    have := List.range'_append (s := 0) (m := j) (n := d + 1) (step := 1)
    rw [← this]
    simp
  unfold ffI
  rw [hf]
theorem ffI_none (p : Nat → Bool) (h : ∀ n < 61, p n = true) : ffI p = -1 := by
  have hf : (List.range 61).find? (fun n => !p n) = none := by
    rw [List.find?_eq_none]
    intro n hn
    rw [h n (List.mem_range.1 hn)]
    decide
  unfold ffI
  rw [hf]
theorem impl_FirstFalseRank_bad (v : Value) (xs : List Nd) (w : World) (h : Sl cN w v xs) (hl : xs.length ≤ 1048576) (hc : lcode [xs] ≠ 0) :
    Calls Tryz.prog 50 #[v] w fun e w' => e = .returned (.tuple #[.int .i64 0, .int .i64 (lcode [xs])]) ∧ Below w.heap.size w w' := by
  have H1 := Lib.hid (impl_TraceOf_bad v xs w h hl hc)
  have hc' : (lcode [xs] != 0) = true := by simpa using hc
  generalize lcode [xs] = k at *
  clear h hc
  go_enter Tryz.func50, Tryz.ntmps50
  go_wp2_with fail
  refine H1.out.mono ?_
  rintro e w1 ⟨rfl, hb⟩
  have HB := Lib.hid (hb.alloc hb.size (.cells #[.bool false, .slice none 0 0] 55)); clear hb
  go_wp2
  go_ret2
  exact ⟨rfl, HB.out⟩
theorem impl_FirstFalseRank_ok (v : Value) (f : Fm) (w : World) (h : Sl cN w v (enc f)) (hl : (enc f).length ≤ 40) (hc : lcode [enc f] = 0) :
    Calls Tryz.prog 50 #[v] w fun e w' => e = .returned (.tuple #[.int .i64 (ffOut (rk f 0)).1, .int .i64 (ffOut (rk f 0)).2]) ∧ Below w.heap.size w w' := by
  have H1 := Lib.hid (impl_TraceOf_ok v f w h hl hc)
  have hlen := trTo_length (rk f 0) 61
  have E := Lib.hid (ff_tr (rk f 0))
  have hrange := ffI_range (rk f 0)
  clear h hc
  go_enter Tryz.func50, Tryz.ntmps50
  go_wp2_with fail
  refine H1.out.mono ?_
  rintro e w1 ⟨u, rfl, ho, hb⟩
  obtain ⟨A3, c3, rfl⟩ := ho.opn
  have hb1 := hb.alloc hb.size (.cells #[.bool (!rk f 0 60), .slice A3 (trOf (rk f 0)).length c3] 55)
  have hs := ho.sl.alloc (.cells #[.bool (!rk f 0 60), .slice A3 (trOf (rk f 0)).length c3] 55)
  go_wp2_with fail
  refine (impl_firstFalse _ _ _ _ hs (by unfold trOf; omega)).mono ?_
  rintro e w2 ⟨rfl, hb2⟩
  rw [E.out]
  have HB := Lib.hid (bthen hb1 hb2)
  clear hb hb1 hb2 ho hs
  by_cases hn : ffI (rk f 0) < 0
  · have E2 : Hid (ffOut (rk f 0) = (0, 4)) := by show _ = _; unfold ffOut; rw [if_pos hn]
    go_wp2
    go_ret2
    exact ⟨by rw [E2.out]; rfl, HB.out⟩
  · have E2 : Hid (ffOut (rk f 0) = (ffI (rk f 0), 0)) := by show _ = _; unfold ffOut; rw [if_neg hn]
    go_wp2
    go_ret2
    exact ⟨by rw [E2.out]; rfl, HB.out⟩
theorem impl_lcode2 {A B : Option Addr} {n c m d : Nat} (xs ys : List Nd) (w : World) (h : Sl cN w (.slice A n c) xs) (h' : Sl cN w (.slice B m d) ys) (hl : xs.length ≤ 1048576) (hl' : ys.length ≤ 1048576) (g : Nat) (hg : g = w.heap.size) :
    Calls Tryz.prog 112 #[.slice (some ⟨g, 0, none⟩) 2 2] (w.alloc (.cells #[.slice A n c, .slice B m d] 26)) fun e w' => e = .returned (.int .i64 (lcode [xs, ys])) ∧ Below w.heap.size w w' := by
  subst hg
  exact (impl_letterlessCode _ [xs, ys] _ (Sl2.two h h' 26) (by simp) (by simp [hl, hl'])).mono fun e w' ⟨he, hb⟩ => ⟨he, ((Below.refl _ _).alloc (Nat.le_refl _) _).trans (hb.mono (by simp))⟩
theorem impl_AreLetterlessEqual_bad (v u : Value) (xs ys : List Nd) (w : World) (h : Sl cN w v xs) (h' : Sl cN w u ys) (hl : xs.length ≤ 1048576) (hl' : ys.length ≤ 1048576) (hc : lcode [xs, ys] ≠ 0) :
    Calls Tryz.prog 39 #[v, u] w fun e w' => e = .returned (.tuple #[.bool false, .int .i64 (lcode [xs, ys])]) ∧ Below w.heap.size w w' := by
  obtain ⟨A, c, rfl⟩ := h.opn
  obtain ⟨B, d, rfl⟩ := h'.opn
  have H1 := Lib.hid (impl_lcode2 xs ys w h h' hl hl' _ rfl)
  have hc' : (lcode [xs, ys] != 0) = true := by simpa using hc
  generalize lcode [xs, ys] = k at *
  clear h h' hc
  go_enter Tryz.func39, Tryz.ntmps39
  go_wp2_with fail
  refine H1.out.mono ?_
  rintro e w1 ⟨rfl, hb⟩
  have HB := Lib.hid hb; clear hb
  go_wp2
  go_ret2
  exact ⟨rfl, HB.out⟩
theorem spec_lcode2 {A B : Option Addr} {n c m d : Nat} (xs ys : List Nd) (w : World) (h : Sl cN w (.slice A n c) xs) (h' : Sl cN w (.slice B m d) ys) (hl : xs.length ≤ 1048576) (hl' : ys.length ≤ 1048576) (g : Nat) (hg : g = w.heap.size) :
    Calls Tryz.prog 114 #[.slice (some ⟨g, 0, none⟩) 2 2] (w.alloc (.cells #[.slice A n c, .slice B m d] 26)) fun e w' => e = .returned (.int .i64 (lcode [xs, ys])) ∧ Below w.heap.size w w' := by
  subst hg
  exact (spec_l32Code _ [xs, ys] _ (Sl2.two h h' 26) (by simp) (by simp [hl, hl'])).mono fun e w' ⟨he, hb⟩ => ⟨he, ((Below.refl _ _).alloc (Nat.le_refl _) _).trans (hb.mono (by simp))⟩
theorem impl_AreLetterlessEqual_ok (v u : Value) (f g : Fm) (w : World) (h : Sl cN w v (enc f)) (h' : Sl cN w u (enc g)) (hl : (enc f).length ≤ 40) (hl' : (enc g).length ≤ 40) (hc : lcode [enc f, enc g] = 0) :
    Calls Tryz.prog 39 #[v, u] w fun e w' => e = .returned (.tuple #[.bool (alike (rk f 0) (rk g 0)), .int .i64 0]) ∧ Below w.heap.size w w' := by
  have HR := Lib.hid (fun W (hW : Sl cN W v (enc f)) => impl_ranksOf f v 0 W (by decide) hW (by omega))
  have HR2 := Lib.hid (fun W (hW : Sl cN W u (enc g)) => impl_ranksOf g u 0 W (by decide) hW (by omega))
  obtain ⟨A, c, rfl⟩ := h.opn
  obtain ⟨B, d, rfl⟩ := h'.opn
  have H1 := impl_lcode2 (enc f) (enc g) w h h' (by omega) (by omega) _ rfl
  rw [hc] at H1
  have H1 := Lib.hid H1
  have E := Lib.hid (alike_msk (rk f 0) (rk g 0))
  have Hh := Lib.hid h
  have Hh' := Lib.hid h'
  clear h h' hc
  generalize (enc f).length = L at *
  generalize (enc g).length = M at *
  go_enter Tryz.func39, Tryz.ntmps39
  go_wp2_with fail
  refine H1.out.mono ?_
  rintro e w1 ⟨rfl, hb⟩
  go_wp2_with fail
  refine (HR.out _ (Hh.out.below hb)).mono ?_
  rintro e w2 ⟨rfl, rfl⟩
  go_wp2_with fail
  refine (HR2.out _ (Hh'.out.below hb)).mono ?_
  rintro e w2 ⟨rfl, rfl⟩
  have HB := Lib.hid hb; clear hb
  go_wp2
  go_ret2
  exact ⟨by rw [← E.out]; rfl, HB.out⟩
end Go.Proofs.YtgcoohlakcncbaaGreat

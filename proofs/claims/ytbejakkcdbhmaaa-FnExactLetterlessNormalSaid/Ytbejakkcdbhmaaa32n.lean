/- Contracts of chapter 32: the Trace of a row and of a mask. -/
import Derived.Test.Ytbejakkcdbhmaaa32m
namespace Go.Proofs.Ytbejakkcdbhmaaa
open Go.RowKit
set_option linter.unusedVariables false
set_option linter.unusedSimpArgs false
/-- the ranks below k of a Trace whose truth values are p -/
def trTo (p : Nat → Bool) (k : Nat) : List Int := ((List.range k).filter fun n => p n == !p 60).map fun (n : Nat) => (n : Int)
def trOf (p : Nat → Bool) : List Int := trTo p 61
theorem trTo_succ (p : Nat → Bool) (k : Nat) : trTo p (k + 1) = trTo p k ++ if (p k == !p 60) = true then [(k : Int)] else [] := by
  unfold trTo
  rw [List.range_succ, List.filter_append, List.map_append]
  congr 1
  cases h : (p k == !p 60) <;> simp [h]
theorem trTo_length (p : Nat → Bool) (k : Nat) : (trTo p k).length ≤ k := by
  unfold trTo
  rw [List.length_map]
  exact Nat.le_trans (List.length_filter_le _ _) (by simp)
set_option maxRecDepth 100000 in
theorem spec_l32Trace (v : Value) (p : Nat → Bool) (w : World) (h : Sl cB w v ((List.range 61).map p)) :
    Calls Try.prog 121 #[v] w fun e w' => ∃ u, e = .returned (.agg #[.bool (!p 60), u]) ∧ Ow cI 2 w.heap.size w' u (trOf p) ∧ Below w.heap.size w w' := by
  obtain ⟨A, c, rfl⟩ := h.opn
  obtain ⟨b, o, rfl, hb, hc60⟩ := h.atB (k := 60) (by simp)
  have hl : ((List.range 61).map p).length = 61 := by simp
  simp only [List.getElem_map, List.getElem_range] at hc60
  rw [hl]
  go_enter Try.func121, Try.ntmps121
  go_wp2
  have b0 : Blk (((w.alloc (.cells #[.bool false, .slice none 0 0] 52)).alloc (.cells #[] 2)).alloc (.cells #[.bool (!p 60), .slice (some ⟨w.heap.size + 1, 0, none⟩) 0 0] 52)) w.heap.size 52 #[.bool false, .slice none 0 0] := ((Blk.new w _ _).alloc _).alloc _
  have b1 : Blk (((w.alloc (.cells #[.bool false, .slice none 0 0] 52)).alloc (.cells #[] 2)).alloc (.cells #[.bool (!p 60), .slice (some ⟨w.heap.size + 1, 0, none⟩) 0 0] 52)) (w.heap.size + 1 + 1) 52 #[.bool (!p 60), .slice (some ⟨w.heap.size + 1, 0, none⟩) 0 0] := Blk.new' _ _ _ (by simp)
  have o0 : Ow cI 2 (w.heap.size + 1) (((w.alloc (.cells #[.bool false, .slice none 0 0] 52)).alloc (.cells #[] 2)).alloc (.cells #[.bool (!p 60), .slice (some ⟨w.heap.size + 1, 0, none⟩) 0 0] 52)) (.slice (some ⟨w.heap.size + 1, 0, none⟩) 0 0) [] := (Ow.lit' [] (by simp) rfl rfl (Nat.le_refl _)).alloc _
  have hB0 : Below w.heap.size w (((w.alloc (.cells #[.bool false, .slice none 0 0] 52)).alloc (.cells #[] 2)).alloc (.cells #[.bool (!p 60), .slice (some ⟨w.heap.size + 1, 0, none⟩) 0 0] 52)) := (((Below.refl _ _).alloc (Nat.le_refl _) _).alloc (by simp) _).alloc (by simp <;> omega) _
  have B0 := Lib.hid b0
  have B1 := Lib.hid b1
  have O0 := Lib.hid o0
  have HB0 := Lib.hid hB0
  clear b0 b1 o0 hB0 hc60
  go_loopw [5] (fun i wr => ∃ (j : Nat) (lv : Value), j ≤ 61 ∧ i = .int .i64 j ∧ Ow cI 2 (w.heap.size + 1) wr lv (trTo p j) ∧ lv.ownBlock ≠ some (w.heap.size + 1 + 1) ∧ Blk wr (w.heap.size + 1 + 1) 52 #[.bool (!p 60), lv] ∧ Blk wr w.heap.size 52 #[.bool false, .slice none 0 0] ∧ Below w.heap.size w wr) (fun i _ => 61 - (intOf i).toNat)
  case atStart => exact ⟨0, _, by omega, rfl, O0.out, by simp [Value.ownBlock], B1.out, B0.out, HB0.out⟩
  case round =>
    obtain ⟨j, lv, hj, rfl, ho, hne, hk, hk0, hbw⟩ := hrel
    clear O0 B0 B1 HB0
    have hlen := trTo_length p j
    obtain ⟨A1, c1, rfl⟩ := ho.opn
    have glt := hk.lt
    have k1 := hk.cell
    have k2 := hk.frozen
    have HO := Lib.hid ho; have HK := Lib.hid hk; have HK0 := Lib.hid hk0; have HN := Lib.hid hne; have HBW := Lib.hid hbw
    clear ho hk hk0 hne hbw
    by_cases hlt : j < 61
    · obtain ⟨b', o', hA', hbl', hcj⟩ := (h.below HBW.out).atB (k := j) (by simp; omega)
      injection hA' with hA'
      injection hA' with h1 h2 _
      subst h1; subst h2
      simp only [List.getElem_map, List.getElem_range] at hcj
      have HS := Lib.hid (trTo_succ p j)
      by_cases hq : (p j == !p 60) = true
      · rw [hq, if_pos rfl] at HS
        go_wp2_with (at_builtin; refine stopHere ?_)
        refine goHere ?_
        refine ap_one (K := cI) _ ty_int64 rfl _ _ rfl (xs := trTo p j) rfl HO.out j rfl rfl (by omega) (by omega) ?_
        intro v1 w1 ho1 hg1 hb1 hat1
        have m1 := (HK.out.alloc (.cells #[.int .i64 j] 2)).grown hg1 (fun e => HN.out e.symm)
        have m0 := (HK0.out.alloc (.cells #[.int .i64 j] 2)).grown hg1 (HO.out.apart (.inl (by omega)))
        have hne1 : v1.ownBlock ≠ some (w.heap.size + 1 + 1) := by
          rcases hat1 with e | e
          · rw [e]; exact HN.out
          · rw [e]; intro e2; injection e2 with e2; omega
        have hbw1 : Below w.heap.size w w1 := HBW.out.trans (hb1.mono (by omega))
        obtain ⟨A2, c2, rfl⟩ := ho1.opn
        have el : (trTo p j ++ [(j : Int)]).length = (trTo p j).length + 1 := by simp
        rw [el] at ho1 hne1 ⊢
        clear k1 k2 el
        have k1 := m1.cell
        have k2 := m1.frozen
        have M1 := Lib.hid m1; have M0 := Lib.hid m0; have N1 := Lib.hid hne1; have O1 := Lib.hid ho1; have W1 := Lib.hid hbw1
        clear m1 m0 hne1 ho1 hbw1 hg1 hb1 hat1
        go_wp2
        go_roundw
        case rel =>
          refine ⟨j + 1, _, by omega, by go_num, by rw [HS.out]; exact O1.out.far N1.out _, N1.out, ?_, M0.out.far (by show w.heap.size ≠ w.heap.size + 1 + 1; omega) _, W1.out.setCell (by show w.heap.size ≤ w.heap.size + 1 + 1; omega) _⟩
          exact M1.out.set_ 1 _
        case measure => simp [intOf]; omega
      · rw [if_neg hq] at HS
        rw [Bool.not_eq_true] at hq
        go_wp2
        go_roundw
        case rel => exact ⟨j + 1, _, by omega, by go_num, by rw [HS.out, List.append_nil]; exact HO.out, HN.out, HK.out, HK0.out, HBW.out⟩
        case measure => simp [intOf]; omega
    · obtain rfl : j = 61 := by omega
      clear h
      have k3 := HK0.out.cell
      have k4 := HK0.out.frozen
      have glt0 := HK0.out.lt
      go_wp2
      refine bodyPost_ret (v := .agg #[.bool (!p 60), .slice A1 (trTo p 61).length c1]) (by simp [results, Try.results121, go_sem, k1, k2, k3, k4]) rfl ⟨_, rfl, ?_, ?_⟩
      · exact ((HO.out.setBelow (by show w.heap.size < w.heap.size + 1; omega) _).setBelow (by show w.heap.size < w.heap.size + 1; omega) _).mono (by omega)
      · exact (HBW.out.setCell (Nat.le_refl _) _).setCell (Nat.le_refl _) _
end Go.Proofs.Ytbejakkcdbhmaaa

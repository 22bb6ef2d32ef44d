/- Contracts of FixedPointTrace, of the program and of the reference. -/
import Derived.Test.YtgcoohlakcncbaaGreatB7
import Derived.Deep.RegionWith
import Derived.Deep.CutRange
import Derived.Deep.DeepCutAuto
namespace Go.Proofs.YtgcoohlakcncbaaGreat
open Go.RowKit
set_option linter.unusedVariables false
set_option linter.unusedSimpArgs false
/-- a variable is guarded, and there is no other one -/
def lone (f : Fm) (s : Nat) : Bool := gd f s && only (enc f) s
theorem spec_l33Alone (f : Fm) (s : Nat) (v : Value) (w : World) (h : Sl cN w v (enc f)) (hl : (enc f).length ≤ 1048576) (hok : f.ok = true) (hs : s ≤ 5) :
    Calls Tryz.prog 105 #[v, .int .i64 s] w fun e w' => e = .returned (.bool (lone f s)) ∧ Below w.heap.size w w' := by
  have hn := enc_nodes f hok
  have hm := only_mems (vmask (enc f)) (vmask_lt _ hn) s (by omega)
  have HM : Hid (only (enc f) s = _) := Lib.hid hm
  clear hm
  have H2 := Lib.hid (spec_l02Variables v (enc f) w h (by omega) hn)
  clear hn
  generalize mems (vmask (enc f)) = L at *
  have HG := Lib.hid (fun W (hW : Sl cN W v (enc f)) => spec_l03Guarded f s v W hW hl)
  have Hh := Lib.hid h
  clear h
  cases hg : gd f s
  · have E : Hid (lone f s = false) := Lib.hid (by unfold lone; rw [hg]; rfl)
    rw [hg] at HG
    clear hg
    go_enter Tryz.func105, Tryz.ntmps105
    go_wp2_with fail
    refine H2.out.mono ?_
    rintro e w1 ⟨u, rfl, ho, hb⟩
    have HB := Lib.hid hb
    clear hb ho
    go_wp2_with fail
    refine (HG.out _ (Hh.out.below HB.out)).mono ?_
    rintro e w2 ⟨rfl, rfl⟩
    go_wp2
    go_ret
    exact ⟨by rw [E.out]; rfl, HB.out⟩
  · have E : Hid (lone f s = only (enc f) s) := Lib.hid (by unfold lone; rw [hg]; rfl)
    rw [hg] at HG
    clear hg
    by_cases h0 : L.length = 0
    · have HO : Hid (only (enc f) s = true) := Lib.hid (by rw [HM.out, decide_eq_true h0]; rfl)
      go_enter Tryz.func105, Tryz.ntmps105
      have H0 := Lib.hid h0; clear h0
      go_wp2_with fail
      refine H2.out.mono ?_
      rintro e w1 ⟨u, rfl, ho, hb⟩
      have HB := Lib.hid hb
      obtain ⟨A, c, rfl⟩ := ho.opn
      rw [H0.out]
      clear hb ho
      go_wp2_with fail
      refine (HG.out _ (Hh.out.below HB.out)).mono ?_
      rintro e w2 ⟨rfl, rfl⟩
      go_wp2
      go_ret
      exact ⟨by rw [E.out, HO.out]; rfl, HB.out⟩
    · by_cases h1 : L.length = 1
      · obtain ⟨x, rfl⟩ : ∃ x, L = [x] := List.length_eq_one_iff.1 h1
        have HO : Hid (only (enc f) s = (x == (s : Int))) := Lib.hid (by
          rw [HM.out]
          show (false || true && decide (x = (s : Int))) = (x == (s : Int))
          rw [Bool.false_or, Bool.true_and]
          by_cases h : x = (s : Int) <;> simp [h])
        clear h0 h1
        go_enter Tryz.func105, Tryz.ntmps105
        go_wp2_with fail
        refine H2.out.mono ?_
        rintro e w1 ⟨u, rfl, ho, hb⟩
        have HB := Lib.hid hb
        obtain ⟨A, c, rfl⟩ := ho.opn
        simp only [List.length_cons, List.length_nil, Nat.zero_add] at ho ⊢
        obtain ⟨g, o, rfl, hgl, hc0⟩ := ho.sl.atI (k := 0) (by simp)
        simp only [List.getElem_cons_zero, Nat.add_zero] at hc0
        clear hb ho
        go_wp2_with fail
        refine (HG.out _ (Hh.out.below HB.out)).mono ?_
        rintro e w2 ⟨rfl, rfl⟩
        go_wp2
        go_ret
        exact ⟨by rw [E.out, HO.out]; rfl, HB.out⟩
      · have HO : Hid (only (enc f) s = false) := Lib.hid (by rw [HM.out, decide_eq_false h0, decide_eq_false h1]; rfl)
        have d0 : ((L.length : Int) == 0) = false := by rw [beq_eq_false_iff_ne]; omega
        have d1 : ((L.length : Int) == 1) = false := by rw [beq_eq_false_iff_ne]; omega
        clear h0 h1
        go_enter Tryz.func105, Tryz.ntmps105
        go_wp2_with fail
        refine H2.out.mono ?_
        rintro e w1 ⟨u, rfl, ho, hb⟩
        have HB := Lib.hid hb
        obtain ⟨A, c, rfl⟩ := ho.opn
        clear hb ho
        go_wp2_with fail
        refine (HG.out _ (Hh.out.below HB.out)).mono ?_
        rintro e w2 ⟨rfl, rfl⟩
        go_wp2
        go_ret
        exact ⟨by rw [E.out, HO.out]; rfl, HB.out⟩
theorem spec_FixedPointTrace_bad (v : Value) (xs : List Nd) (s : Int) (w : World) (h : Sl cN w v xs) (hl : xs.length ≤ 1048576) (hc : vcode xs s ≠ 0) :
    Calls Tryz.prog 36 #[v, .int .i64 s] w fun e w' => e = .returned (.tuple #[.agg #[.bool false, .slice none 0 0], .int .i64 (vcode xs s)]) ∧ Below w.heap.size w w' := by
  have H1 := Lib.hid (fun W (hW : Sl cN W v xs) => spec_l33Code v xs s W hW hl)
  have Hh := Lib.hid h
  have hc' : (vcode xs s != 0) = true := by simpa using hc
  have HB : Hid (Below w.heap.size w (w.alloc (.cells #[.bool false, .slice none 0 0] 55))) := Lib.hid ((Below.refl _ _).alloc (Nat.le_refl _) _)
  generalize vcode xs s = k at *
  clear h hc
  go_enter Tryz.func36, Tryz.ntmps36
  go_wp2_with fail
  refine (H1.out _ (Hh.out.alloc _)).mono ?_
  rintro e w1 ⟨rfl, rfl⟩
  go_wp2
  refine bodyPost_ret (v := .tuple #[.agg #[.bool false, .slice none 0 0], .int .i64 k]) (by simp [results, Tryz.results36, go_sem]) rfl ⟨rfl, ?_⟩
  first | exact HB.out | exact (HB.out.setCell (Nat.le_refl _) _).setCell (Nat.le_refl _) _
theorem spec_FixedPointTrace_state (v : Value) (f : Fm) (s : Nat) (w : World) (h : Sl cN w v (enc f)) (hl : (enc f).length ≤ 40) (hok : f.ok = true) (hs : s ≤ 5) (hc : lone f s = false) :
    Calls Tryz.prog 36 #[v, .int .i64 s] w fun e w' => e = .returned (.tuple #[.agg #[.bool false, .slice none 0 0], .int .i64 5]) ∧ Below w.heap.size w w' := by
  have hcode := vcode_ok ((isF_iff _).2 ⟨f, hok, rfl, hl⟩) hs
  have H1 := Lib.hid (fun W (hW : Sl cN W v (enc f)) => hcode ▸ spec_l33Code v (enc f) s W hW (by omega))
  have H2 := Lib.hid (fun W (hW : Sl cN W v (enc f)) => hc ▸ spec_l33Alone f s v W hW (by omega) hok hs)
  have Hh := Lib.hid h
  have HB : Hid (Below w.heap.size w (w.alloc (.cells #[.bool false, .slice none 0 0] 55))) := Lib.hid ((Below.refl _ _).alloc (Nat.le_refl _) _)
  clear h hc hcode
  go_enter Tryz.func36, Tryz.ntmps36
  go_wp2_with fail
  refine (H1.out _ (Hh.out.alloc _)).mono ?_
  rintro e w1 ⟨rfl, rfl⟩
  go_wp2_with fail
  refine (H2.out _ (Hh.out.alloc _)).mono ?_
  rintro e w1 ⟨rfl, hb⟩
  obtain ⟨k1, k2, k3⟩ := kept_blk hb
  have HB2 : Hid (Below w.heap.size w w1) := Lib.hid (HB.out.trans (hb.mono (by simp)))
  clear hb
  go_wp2
  refine bodyPost_ret (v := .tuple #[.agg #[.bool false, .slice none 0 0], .int .i64 5]) (by simp [results, Tryz.results36, go_sem, k1, k2, k3]) rfl ⟨rfl, ?_⟩
  exact (HB2.out.setCell (Nat.le_refl _) _).setCell (Nat.le_refl _) _
theorem spec_FixedPointTrace_ok (v : Value) (f : Fm) (s : Nat) (w : World) (h : Sl cN w v (enc f)) (hl : (enc f).length ≤ 40) (hok : f.ok = true) (hs : s ≤ 5) (hc : lone f s = true) :
    Calls Tryz.prog 36 #[v, .int .i64 s] w fun e w' => ∃ u, e = .returned (.tuple #[.agg #[.bool (!(fpS f 61).testBit 60), u], .int .i64 0]) ∧ Ow cI 2 w.heap.size w' u (trOf (fpS f 61).testBit) ∧ Below w.heap.size w w' := by
  have hcode := vcode_ok ((isF_iff _).2 ⟨f, hok, rfl, hl⟩) hs
  have H1 := Lib.hid (fun W (hW : Sl cN W v (enc f)) => hcode ▸ spec_l33Code v (enc f) s W hW (by omega))
  have H2 := Lib.hid (fun W (hW : Sl cN W v (enc f)) => hc ▸ spec_l33Alone f s v W hW (by omega) hok hs)
  have H3 := Lib.hid (fun W (hW : Sl cN W v (enc f)) => spec_l33Trace f v W hW (by omega))
  have Hh := Lib.hid h
  have HB : Hid (Below w.heap.size w (w.alloc (.cells #[.bool false, .slice none 0 0] 55))) := Lib.hid ((Below.refl _ _).alloc (Nat.le_refl _) _)
  clear h hc hcode
  go_enter Tryz.func36, Tryz.ntmps36
  go_wp2_with fail
  refine (H1.out _ (Hh.out.alloc _)).mono ?_
  rintro e w1 ⟨rfl, rfl⟩
  go_wp2_with fail
  refine (H2.out _ (Hh.out.alloc _)).mono ?_
  rintro e w1 ⟨rfl, hb⟩
  have HA := Lib.hid hb
  have hsz := hb.size
  simp at hsz
  clear hb
  go_wp2_with fail
  refine (H3.out _ ((Hh.out.alloc _).below HA.out)).mono ?_
  rintro e w2 ⟨u, rfl, ho, hb2⟩
  obtain ⟨A2, c2, rfl⟩ := ho.opn
  obtain ⟨k1, k2, k3⟩ := kept_blk (bthen HA.out hb2)
  have HO := Lib.hid ho
  have HB2 : Hid (Below w.heap.size w w2) := Lib.hid (HB.out.trans ((bthen HA.out hb2).mono (by simp)))
  clear hb2 ho
  go_wp2
  refine bodyPost_ret (v := .tuple #[.agg #[.bool (!(fpS f 61).testBit 60), .slice A2 (trOf (fpS f 61).testBit).length c2], .int .i64 0]) (by simp [results, Tryz.results36, go_sem, k1, k2, k3]) rfl ⟨_, rfl, ?_, ?_⟩
  · exact ((HO.out.setBelow (by show w.heap.size < w1.heap.size; omega) _).setBelow (by show w.heap.size < w1.heap.size; omega) _).mono (by omega)
  · exact (HB2.out.setCell (Nat.le_refl _) _).setCell (Nat.le_refl _) _
/-- the ranks at which a formula is true, within a region that draws -/
theorem q_ranksOf {f : Fm} {v : Value} {W : World} (h : Sl cN W v (enc f)) (hl : (enc f).length ≤ 1048576) (vs : Nat) (hvs : vs < 2305843009213693952) (n : Nat) :
    Calls Tryz.prog 109 #[v, .int .i64 vs] (W.drewN n) fun e w'' => e = .returned (.int .i64 (msk (rk f vs) 61 : Nat)) ∧ ∃ m, w'' = W.drewN m :=
  (impl_ranksOf f v vs _ hvs (h.drewN n) hl).mono fun e w' hh => ⟨hh.1, n, hh.2.symm⟩
theorem wrap_two_pow'' {n : Nat} (h : n ≤ 62) : IntKind.i64.wrap ((2 : Int) ^ n) = ((2 ^ n : Nat) : Int) := by
  have h1 := two_pow_le h
  have h2 : (0 : Int) < 2 ^ n := Int.pow_pos (by decide)
  rw [IntWalk.i64_in _ ⟨by omega, by omega⟩, cast_two_pow]
theorem impl_FixedPointTrace_bad (v : Value) (xs : List Nd) (s : Int) (w : World) (h : Sl cN w v xs) (hl : xs.length ≤ 1048576) (hc : vcode xs s ≠ 0) :
    Calls Tryz.prog 35 #[v, .int .i64 s] w fun e w' => e = .returned (.tuple #[.agg #[.bool false, .slice none 0 0], .int .i64 (vcode xs s)]) ∧ Below w.heap.size w w' := by
  have H1 := Lib.hid (fun W (hW : Sl cN W v xs) => impl_variableCode v xs s W hW hl)
  have Hh := Lib.hid h
  have hc' : (vcode xs s != 0) = true := by simpa using hc
  have HB : Hid (Below w.heap.size w (w.alloc (.cells #[.bool false, .slice none 0 0] 55))) := Lib.hid ((Below.refl _ _).alloc (Nat.le_refl _) _)
  generalize vcode xs s = k at *
  clear h hc
  go_enter Tryz.func35, Tryz.ntmps35
  go_wp2_with fail
  refine (H1.out _ (Hh.out.alloc _)).mono ?_
  rintro e w1 ⟨rfl, hb⟩
  obtain ⟨k1, k2, k3⟩ := kept_blk hb
  have HB2 : Hid (Below w.heap.size w w1) := Lib.hid (HB.out.trans (hb.mono (by simp)))
  clear hb
  go_wp2
  refine bodyPost_ret (v := .tuple #[.agg #[.bool false, .slice none 0 0], .int .i64 k]) (by simp [results, Tryz.results35, go_sem, k1, k2, k3]) rfl ⟨rfl, ?_⟩
  exact (HB2.out.setCell (Nat.le_refl _) _).setCell (Nat.le_refl _) _
set_option maxHeartbeats 2000000 in
theorem impl_FixedPointTrace_state (v : Value) (f : Fm) (s : Nat) (w : World) (h : Sl cN w v (enc f)) (hl : (enc f).length ≤ 40) (hok : f.ok = true) (hs : s ≤ 5) (hc : lone f s = false) :
    Calls Tryz.prog 35 #[v, .int .i64 s] w fun e w' => e = .returned (.tuple #[.agg #[.bool false, .slice none 0 0], .int .i64 5]) ∧ Below w.heap.size w w' := by
  have hcode := vcode_ok ((isF_iff _).2 ⟨f, hok, rfl, hl⟩) hs
  have H1 := Lib.hid (fun W (hW : Sl cN W v (enc f)) => hcode ▸ impl_variableCode v (enc f) s W hW (by omega))
  have H2 := Lib.hid (fun W (hW : Sl cN W v (enc f)) => impl_isGuarded f s v W hW (by omega))
  have H3 := Lib.hid (fun W (hW : Sl cN W v (enc f)) => impl_variableMask v (enc f) W hW (by omega) (enc_nodes f hok))
  have hm := vmask_lt _ (enc_nodes f hok)
  have H4 := Lib.hid (fun W => impl_within (vmask (enc f)) (2 ^ s) W (by omega) (two_pow_lt (by omega)))
  have e1 := wrap_two_pow'' (n := s) (by omega)
  have Hh := Lib.hid h
  have HB : Hid (Below w.heap.size w (w.alloc (.cells #[.bool false, .slice none 0 0] 55))) := Lib.hid ((Below.refl _ _).alloc (Nat.le_refl _) _)
  clear h hcode hm
  cases hg : gd f s
  · rw [hg] at H2
    clear hg hc
    go_enter Tryz.func35, Tryz.ntmps35
    go_wp2_with fail
    refine (H1.out _ (Hh.out.alloc _)).mono ?_
    rintro e w1 ⟨rfl, hb⟩
    have HA := Lib.hid hb; clear hb
    go_wp2_with fail
    first | go_region_with (first | (go_at_call 86; refine (H2.out _ ((Hh.out.alloc _).below (HA.out.trans (below_drewN (Below.refl _ _) 1)))).mono ?_; rintro e w2 ⟨rfl, hb2⟩)) | fail
    all_goals
      have hB3 := HA.out.trans (((below_drewN (Below.refl _ _) 1).trans hb2).mono HA.out.size)
      obtain ⟨k1, k2, k3⟩ := kept_blk hB3
      have HB2 : Hid (Below w.heap.size w w2) := Lib.hid (HB.out.trans (hB3.mono (by simp)))
      clear hb2 hB3
      go_wp2
      refine bodyPost_ret (v := .tuple #[.agg #[.bool false, .slice none 0 0], .int .i64 5]) (by simp [results, Tryz.results35, go_sem, k1, k2, k3]) rfl ⟨rfl, ?_⟩
      exact (HB2.out.setCell (Nat.le_refl _) _).setCell (Nat.le_refl _) _
  · have ho : decide (andnot (vmask (enc f)) (2 ^ s) = 0) = false := by unfold lone only at hc; rwa [hg, Bool.true_and] at hc
    rw [hg] at H2
    rw [ho] at H4
    clear hg hc ho
    generalize vmask (enc f) = m at *
    go_enter Tryz.func35, Tryz.ntmps35
    go_wp2_with fail
    refine (H1.out _ (Hh.out.alloc _)).mono ?_
    rintro e w1 ⟨rfl, hb⟩
    have HA := Lib.hid hb; clear hb
    go_wp2_with fail
    first | go_region_with (first | (go_at_call 86; refine (H2.out _ ((Hh.out.alloc _).below (HA.out.trans (below_drewN (Below.refl _ _) 1)))).mono ?_; rintro e w2 ⟨rfl, hb2⟩; have hB3 := HA.out.trans (((below_drewN (Below.refl _ _) 1).trans hb2).mono HA.out.size)) | (go_at_call 67; refine (H3.out _ ((Hh.out.alloc _).below hB3)).mono ?_; rintro e w3 ⟨rfl, hb3⟩; have hB4 := hB3.trans (hb3.mono hB3.size)) | (go_at_call 108; refine (H4.out _).mono ?_; rintro e w4 ⟨rfl, rfl⟩)) | fail
    all_goals
      obtain ⟨k1, k2, k3⟩ := kept_blk hB4
      have HB2 : Hid (Below w.heap.size w w3) := Lib.hid (HB.out.trans (hB4.mono (by simp)))
      clear hb2 hB3 hB4 hb3
      go_wp2
      refine bodyPost_ret (v := .tuple #[.agg #[.bool false, .slice none 0 0], .int .i64 5]) (by simp [results, Tryz.results35, go_sem, k1, k2, k3]) rfl ⟨rfl, ?_⟩
      exact (HB2.out.setCell (Nat.le_refl _) _).setCell (Nat.le_refl _) _
set_option maxHeartbeats 2000000 in
theorem impl_FixedPointTrace_ok (v : Value) (f : Fm) (s : Nat) (w : World) (h : Sl cN w v (enc f)) (hl : (enc f).length ≤ 40) (hok : f.ok = true) (hs : s ≤ 5) (hc : lone f s = true) :
    Calls Tryz.prog 35 #[v, .int .i64 s] w fun e w' => ∃ u, e = .returned (.tuple #[.agg #[.bool (!(fpS f 61).testBit 60), u], .int .i64 0]) ∧ Ow cI 2 w.heap.size w' u (trOf (fpS f 61).testBit) ∧ Below w.heap.size w w' := by
  have hcode := vcode_ok ((isF_iff _).2 ⟨f, hok, rfl, hl⟩) hs
  have hgo : gd f s = true ∧ decide (andnot (vmask (enc f)) (2 ^ s) = 0) = true := by unfold lone only at hc; simpa using hc
  have H1 := Lib.hid (fun W (hW : Sl cN W v (enc f)) => hcode ▸ impl_variableCode v (enc f) s W hW (by omega))
  have H2 := Lib.hid (fun W (hW : Sl cN W v (enc f)) => hgo.1 ▸ impl_isGuarded f s v W hW (by omega))
  have H3 := Lib.hid (fun W (hW : Sl cN W v (enc f)) => impl_variableMask v (enc f) W hW (by omega) (enc_nodes f hok))
  have hm := vmask_lt _ (enc_nodes f hok)
  have H4 := Lib.hid (fun W => hgo.2 ▸ impl_within (vmask (enc f)) (2 ^ s) W (by omega) (two_pow_lt (by omega)))
  have HQ := Lib.hid (fun (W : World) (hW : Sl cN W v (enc f)) (j n : Nat) => q_ranksOf (W := W) hW (by omega) (fpS f j) (fpS_lt f j) n)
  have HF := Lib.hid (impl_traceOf (fpS f 61).testBit)
  have e1 := wrap_two_pow'' (n := s) (by omega)
  have Hh := Lib.hid h
  have HB : Hid (Below w.heap.size w (w.alloc (.cells #[.bool false, .slice none 0 0] 55))) := Lib.hid ((Below.refl _ _).alloc (Nat.le_refl _) _)
  clear h hcode hm hgo hc
  generalize vmask (enc f) = m at *
  go_enter Tryz.func35, Tryz.ntmps35
  go_wp2_with fail
  refine (H1.out _ (Hh.out.alloc _)).mono ?_
  rintro e w1 ⟨rfl, hb⟩
  have HA := Lib.hid hb; clear hb
  go_upto_region 4 with fail
  go_cut [17] (fun t W => t = .bool false ∧ Below w1.heap.size w1 W)
  case first =>
    first | go_region_with (first | (go_at_call 86; refine (H2.out _ ((Hh.out.alloc _).below (HA.out.trans (below_drewN (Below.refl _ _) 1)))).mono ?_; rintro e w2 ⟨rfl, hb2⟩; have hB3 : Below w1.heap.size w1 w2 := (below_drewN (Below.refl _ _) 1).trans hb2; have hS3 := (Hh.out.alloc _).below (HA.out.trans (hB3.mono HA.out.size))) | (go_at_call 67; refine (H3.out _ hS3).mono ?_; rintro e w3 ⟨rfl, hb3⟩; have hB4 := bthen hB3 hb3) | (go_at_call 108; refine (H4.out _).mono ?_; rintro e w4 ⟨rfl, rfl⟩)) | fail
    all_goals (go_wp2_with fail; go_meet; exact ⟨rfl, hB4⟩)
  case rest =>
    obtain ⟨rfl, hB5⟩ := hcut
    have HB5 := Lib.hid hB5
    clear hB5 e1 H1 H2 H3 H4
    go_wp2
    go_loopw [7, 31] (fun t i wr => ∃ j : Nat, j ≤ 61 ∧ i = .int .i64 j ∧ t = .int .i64 (fpS f j : Nat) ∧ Below w1.heap.size w1 wr) (fun _ i _ => 61 - (intOf i).toNat)
    case atStart => exact ⟨0, by omega, rfl, rfl, HB5.out⟩
    case round =>
      obtain ⟨j, hj, rfl, rfl, hb⟩ := hrel
      by_cases hlt : j < 61
      · have HC := Lib.hid (fun n => HQ.out wr ((Hh.out.alloc _).below (HA.out.trans (hb.mono HA.out.size))) j n)
        have HBW := Lib.hid hb
        have m1 := msk_lt (rk f (fpS f j)) 61
        have m2 : msk (rk f (fpS f j)) 61 &&& 2 ^ j < 2 ^ 61 := Nat.lt_of_le_of_lt Nat.and_le_left m1
        have m3 := fpS_lt f j
        have e1 : IntKind.i64.wrap ((2 : Int) ^ j) = 2 ^ j := by rw [wrap_two_pow'' (by omega), ← cast_two_pow]
        have e2 := wrap_two_pow (n := j) (by omega)
        have e3 := i64_and_nat (msk (rk f (fpS f j)) 61) (2 ^ j) (by omega) (two_pow_lt (by omega))
        rw [← cast_two_pow] at e3
        have e4 := i64_or_nat (fpS f j) (msk (rk f (fpS f j)) 61 &&& 2 ^ j) (by omega) (by omega)
        have HE : Hid (fpS f (j + 1) = fpS f j ||| (msk (rk f (fpS f j)) 61 &&& 2 ^ j)) := Lib.hid rfl
        clear hb m1 m2 m3
        go_wp2
        go_quiet ((go_at_call 109; exact HC.out _))
        go_wp2
        go_roundw
        case rel => exact ⟨j + 1, by omega, by go_num, by rw [HE.out], below_drewN HBW.out _⟩
        case measure => simp [intOf]; omega
      · obtain rfl : j = 61 := by omega
        have hm := fpS_msk f
        rw [← hm] at HF
        have HBW := Lib.hid hb
        clear hm hb
        go_wp2_with fail
        refine (HF.out _).mono ?_
        rintro e w3 ⟨u, rfl, ho, hb3⟩
        obtain ⟨A2, c2, rfl⟩ := ho.opn
        have hBB := HA.out.trans ((bthen HBW.out hb3).mono HA.out.size)
        obtain ⟨k1, k2, k3⟩ := kept_blk hBB
        have hz := (HB.out.trans (HA.out.mono (by simp))).size
        have hz1 := HA.out.size
        have hz2 := HBW.out.size
        have HO := Lib.hid ho
        have HB2 : Hid (Below w.heap.size w w3) := Lib.hid (HB.out.trans (hBB.mono (by simp)))
        simp at hz1
        clear hb3 ho hBB
        go_wp2
        refine bodyPost_ret (v := .tuple #[.agg #[.bool (!(fpS f 61).testBit 60), .slice A2 (trOf (fpS f 61).testBit).length c2], .int .i64 0]) (by simp [results, Tryz.results35, go_sem, k1, k2, k3]) rfl ⟨_, rfl, ?_, ?_⟩
        · exact ((HO.out.setBelow (by show w.heap.size < wr.heap.size; omega) _).setBelow (by show w.heap.size < wr.heap.size; omega) _).mono (by omega)
        · exact (HB2.out.setCell (Nat.le_refl _) _).setCell (Nat.le_refl _) _
end Go.Proofs.YtgcoohlakcncbaaGreat

/- Contracts of the reference: IsFixedPoint. -/
import Derived.Test.YtgcoohlakcncbaaGreat33M
import Derived.Test.YtgcoohlakcncbaaGreatN34
import Derived.Test.YtgcoohlakcncbaaGreatM3
namespace Go.Proofs.YtgcoohlakcncbaaGreat
open Go.RowKit
set_option linter.unusedVariables false
set_option linter.unusedSimpArgs false
theorem spec_IsFixedPoint_bad (v u : Value) (xs ys : List Nd) (s : Int) (w : World) (h : Sl cN w v xs) (h' : Sl cN w u ys) (hl : xs.length ≤ 1048576) (hl' : ys.length ≤ 1048576) (hc : (isF xs && isF ys) = false) :
    Calls Tryz.prog 8 #[v, .int .i64 s, u] w fun e w' => e = .returned (.tuple #[.bool false, .int .i64 1]) ∧ Below w.heap.size w w' := by
  obtain ⟨A, c, rfl⟩ := h.opn
  obtain ⟨B, d, rfl⟩ := h'.opn
  have H1 := Lib.hid (spec_l02Is _ xs w h (by omega))
  have H2 := Lib.hid (spec_l02Is _ ys w h' (by omega))
  clear h h'
  generalize isF xs = r1 at *
  generalize isF ys = r2 at *
  go_enter Tryz.func8, Tryz.ntmps8
  go_wp2_with fail
  refine H1.out.mono ?_
  rintro e w1 ⟨rfl, rfl⟩
  cases r1
  · go_wp2
    refine bodyPost_ret (v := .tuple #[.bool false, .int .i64 1]) (by simp [results, Tryz.results8, go_sem]) rfl ⟨rfl, Below.refl _ _⟩
  · obtain rfl : r2 = false := by simpa using hc
    go_wp2_with fail
    refine H2.out.mono ?_
    rintro e w1 ⟨rfl, rfl⟩
    go_wp2
    refine bodyPost_ret (v := .tuple #[.bool false, .int .i64 1]) (by simp [results, Tryz.results8, go_sem]) rfl ⟨rfl, Below.refl _ _⟩
theorem spec_IsFixedPoint_range (v u : Value) (xs ys : List Nd) (s : Int) (w : World) (h : Sl cN w v xs) (h' : Sl cN w u ys) (hl : xs.length ≤ 1048576) (hl' : ys.length ≤ 1048576) (hc : (isF xs && isF ys) = true) (hs5 : inR s 0 5 = false) :
    Calls Tryz.prog 8 #[v, .int .i64 s, u] w fun e w' => e = .returned (.tuple #[.bool false, .int .i64 2]) ∧ Below w.heap.size w w' := by
  obtain ⟨A, c, rfl⟩ := h.opn
  obtain ⟨B, d, rfl⟩ := h'.opn
  rw [Bool.and_eq_true] at hc
  have H1 := Lib.hid (hc.1 ▸ spec_l02Is _ xs w h (by omega))
  have H2 := Lib.hid (hc.2 ▸ spec_l02Is _ ys w h' (by omega))
  have H3 := Lib.hid (hs5 ▸ spec_l01In s 0 5 w)
  clear h h' hc hs5
  go_enter Tryz.func8, Tryz.ntmps8
  go_wp2_with fail
  refine H1.out.mono ?_
  rintro e w1 ⟨rfl, rfl⟩
  go_wp2_with fail
  refine H2.out.mono ?_
  rintro e w1 ⟨rfl, rfl⟩
  go_wp2_with fail
  refine H3.out.mono ?_
  rintro e w1 ⟨rfl, rfl⟩
  go_wp2
  refine bodyPost_ret (v := .tuple #[.bool false, .int .i64 2]) (by simp [results, Tryz.results8, go_sem]) rfl ⟨rfl, Below.refl _ _⟩
set_option maxRecDepth 100000 in
theorem spec_IsFixedPoint_good (f g : Fm) (v u : Value) (s : Nat) (w : World) (h : Sl cN w v (enc f)) (h' : Sl cN w u (enc g)) (hl : (enc f).length ≤ 40) (hl' : (enc g).length ≤ 40) (hf : f.ok = true) (hg : g.ok = true) (hs5 : s ≤ 5) :
    Calls Tryz.prog 8 #[v, .int .i64 s, u] w fun e w' => e = .returned (.tuple (ifR (f.sub s g) g s)) ∧ Below w.heap.size w w' := by
  obtain ⟨A, c, rfl⟩ := h.opn
  obtain ⟨B, d, rfl⟩ := h'.opn
  have e1 : isF (enc f) = true := (isF_iff _).2 ⟨f, hf, rfl, hl⟩
  have e2 : isF (enc g) = true := (isF_iff _).2 ⟨g, hg, rfl, hl'⟩
  have H1 := Lib.hid (e1 ▸ spec_l02Is _ (enc f) w h (by omega))
  have H2 := Lib.hid (e2 ▸ spec_l02Is _ (enc g) w h' (by omega))
  have hin : inR (s : Int) 0 5 = true := inR_true (by omega) (by omega)
  have H3 := Lib.hid (hin ▸ spec_l01In (s : Int) 0 5 w)
  have H4 := Lib.hid (spec_bind s _ (enc g) w h' (by omega) hs5)
  have hM : ∀ x ∈ (idTo 6).set s (enc g), x.length ≤ 4096 := fun x hx => Nat.le_trans (repL_ims s (enc g) 40 (by omega) hl' x hx) (by omega)
  have H5 := Lib.hid (fun v u W (a : Sl cN W v (enc f)) (b : Sl2 cN W u ((idTo 6).set s (enc g))) => spec_sub v u (enc f) _ W a b (node_ims (enc_nodes f hf) s (enc g)) (by omega) hM)
  have hrl := repL_enc f s g hs5 hf
  unfold repL at hrl
  rw [hrl] at H5
  have hmo : (f.sub s g).ok = true := sub_ok hf hg
  have H6 := Lib.hid (fun (hm : (enc (f.sub s g)).length ≤ 40) v u W a b => spec_AreModallyEquivalent_GL (f.sub s g) g v u W a b hm hl' hmo hg)
  have H7 := Lib.hid (fun W a => spec_l33Occurs (.slice B (enc g).length d) (enc g) (s : Int) W a (by omega))
  rw [occ_bit _ _ (enc_nodes g hg)] at H7
  have hml : (enc (f.sub s g)).length ≤ 1600 := by
    have h9 := repL_length (enc f) s (enc g) 40 (by omega) hl'
    rw [repL_enc f s g hs5 hf] at h9
    have := Nat.mul_le_mul_right 40 hl
    omega
  have HF := Lib.hid h
  have HG := Lib.hid h'
  clear h h' hs5 hin hf e1 e2 hM hrl hmo
  have HR : Hid (ifR (f.sub s g) g s = if (decide (40 < (enc (f.sub s g)).length) || decide (8 < (elF [f.sub s g, g]).length)) = true then #[.bool false, .int .i64 3] else #[.bool (!(vmask (enc g)).testBit s && (thB [g] [f.sub s g] && thB [f.sub s g] [g])), .int .i64 0]) := Lib.hid rfl
  rw [HR.out]
  clear HR
  generalize f.sub s g = m at *
  generalize (vmask (enc g)).testBit s = ro at *
  generalize thB [m] [g] = r1 at *
  generalize thB [g] [m] = r2 at *
  generalize (elF [m, g]).length = ne at *
  obtain ⟨nm, hnm⟩ : ∃ z, (enc m).length = z := ⟨_, rfl⟩
  have HNM := Lib.hid hnm
  rw [hnm] at H6 hml ⊢
  clear hnm
  by_cases h40 : 40 < nm
  · rw [decide_eq_true h40, Bool.true_or, if_pos rfl]
    clear H6
    go_enter Tryz.func8, Tryz.ntmps8
    go_wp2_with fail
    refine H1.out.mono ?_
    rintro e w1 ⟨rfl, rfl⟩
    go_wp2_with fail
    refine H2.out.mono ?_
    rintro e w1 ⟨rfl, rfl⟩
    go_wp2_with fail
    refine H3.out.mono ?_
    rintro e w1 ⟨rfl, rfl⟩
    go_wp2_with fail
    refine H4.out.mono ?_
    rintro e w1 ⟨u1, rfl, hs, hb⟩
    have S1 := Lib.hid hs
    have B1 := Lib.hid hb
    have F1 := Lib.hid (HF.out.below hb)
    clear hs hb
    go_wp2_with fail
    refine (H5.out _ _ _ F1.out S1.out).mono ?_
    rintro e w2 ⟨u2, rfl, ho, hb⟩
    obtain ⟨A2, c2, rfl⟩ := ho.opn
    rw [HNM.out] at ho ⊢
    have B2 := Lib.hid (bthen B1.out hb)
    have i1 : (40 : Int) < (nm : Int) := by omega
    clear ho hb
    go_wp2
    refine bodyPost_ret (v := .tuple #[.bool false, .int .i64 3]) (by simp [results, Tryz.results8, go_sem]) rfl ⟨rfl, B2.out⟩
  · rw [decide_eq_false h40, Bool.false_or]
    have H6' := Lib.hid (H6.out (by omega))
    have hpost : (if decide (8 < ne) = true then #[Value.bool false, .int .i64 3] else #[.bool (!ro && (r2 && r1)), .int .i64 0]) = if 8 < ne then #[Value.bool false, .int .i64 3] else #[.bool (!ro && (r2 && r1)), .int .i64 0] := by
      by_cases h8 : 8 < ne
      · rw [if_pos h8, if_pos (decide_eq_true h8)]
      · rw [if_neg h8, if_neg (by rw [decide_eq_false h8]; decide)]
    rw [hpost]
    clear H6 hpost
    obtain ⟨rr, hrr⟩ : ∃ rr : Array Value, (if 8 < ne then #[Value.bool false, .int .i64 3] else #[.bool (!ro && (r2 && r1)), .int .i64 0]) = rr := ⟨_, rfl⟩
    have HRR := Lib.hid hrr
    rw [hrr]
    clear hrr
    go_enter Tryz.func8, Tryz.ntmps8
    go_wp2_with fail
    refine H1.out.mono ?_
    rintro e w1 ⟨rfl, rfl⟩
    go_wp2_with fail
    refine H2.out.mono ?_
    rintro e w1 ⟨rfl, rfl⟩
    go_wp2_with fail
    refine H3.out.mono ?_
    rintro e w1 ⟨rfl, rfl⟩
    go_wp2_with fail
    refine H4.out.mono ?_
    rintro e w1 ⟨u1, rfl, hs, hb⟩
    have S1 := Lib.hid hs
    have B1 := Lib.hid hb
    have F1 := Lib.hid (HF.out.below hb)
    have G1 := Lib.hid (HG.out.below hb)
    clear hs hb
    go_wp2_with fail
    refine (H5.out _ _ _ F1.out S1.out).mono ?_
    rintro e w2 ⟨u2, rfl, ho, hb⟩
    obtain ⟨A2, c2, rfl⟩ := ho.opn
    rw [HNM.out] at ho ⊢
    have O2 := Lib.hid ho.sl
    have B2 := Lib.hid (bthen B1.out hb)
    have G2 := Lib.hid (G1.out.below hb)
    have i1 : (nm : Int) ≤ 40 := by omega
    clear ho hb
    go_wp2_with fail
    refine (H6'.out _ _ _ O2.out G2.out).mono ?_
    rintro e w3 ⟨rfl, hb⟩
    have B3 := Lib.hid (bthen B2.out hb)
    have G3 := Lib.hid (G2.out.below hb)
    clear hb
    by_cases h8 : 8 < ne
    · rw [if_pos h8] at HRR ⊢
      clear h8
      go_wp2
      refine bodyPost_ret (v := .tuple #[.bool false, .int .i64 3]) (by simp [results, Tryz.results8, go_sem]) rfl ⟨by rw [← HRR.out], B3.out⟩
    · rw [if_neg h8] at HRR ⊢
      clear h8
      cases hr : (r1 && r2)
      · have HE : Hid ((!ro && (r2 && r1)) = false) := Lib.hid (by rw [Bool.and_comm r2 r1, hr, Bool.and_false])
        rw [HE.out] at HRR
        clear hr
        go_wp2
        refine bodyPost_ret (v := .tuple #[.bool false, .int .i64 0]) (by simp [results, Tryz.results8, go_sem]) rfl ⟨by rw [← HRR.out], B3.out⟩
      · have HE : Hid ((!ro && (r2 && r1)) = !ro) := Lib.hid (by rw [Bool.and_comm r2 r1, hr, Bool.and_true])
        rw [HE.out] at HRR
        clear hr
        go_wp2_with fail
        refine (H7.out _ G3.out).mono ?_
        rintro e w4 ⟨rfl, rfl⟩
        go_wp2
        refine bodyPost_ret (v := .tuple #[.bool (!ro), .int .i64 0]) (by simp [results, Tryz.results8, go_sem]) rfl ⟨by rw [← HRR.out], B3.out⟩
end Go.Proofs.YtgcoohlakcncbaaGreat

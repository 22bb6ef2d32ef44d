/- Contract of the reference's formula of a Trace. Written by gen03h.py. -/
import Derived.Test.Ytbejakkcdbhmaaa03f
namespace Go.Proofs.Ytbejakkcdbhmaaa
open Go.RowKit
set_option linter.unusedVariables false
set_option linter.unusedSimpArgs false
theorem Ow2.lit (B g : Nat) (w : World) (hg : g = w.heap.size) (hB : B ≤ g) : Ow2 B (w.alloc (.cells #[] 24)) (.slice (some ⟨g, 0, none⟩) 0 0) [] :=
  ⟨[], Ow.lit' [] hg rfl rfl hB, rfl, fun i a => by simp at a⟩
theorem spec_l32Formula_true (v : Value) (xs : List Int) (w : World) (h : Sl cI w v xs) (hl : xs.length ≤ 61) (hm : ∀ x ∈ xs, 0 ≤ x ∧ x ≤ 60) :
    Calls Try.prog 120 #[.agg #[.bool true, v]] w fun e w' => ∃ u, e = .returned (.tuple #[u, .int .i64 (madeC (outL true xs))]) ∧ Ow cN 95 w.heap.size w' u (madeL (outL true xs)) ∧ Below w.heap.size w w' := by
  obtain ⟨A, c, rfl⟩ := h.opn
  have HB0 : Hid (Below w.heap.size w ((w.alloc (.cells #[.bool true, .slice A xs.length c] 52)).alloc (.cells #[] 24))) := Lib.hid (((Below.refl _ _).alloc (Nat.le_refl _) _).alloc (by simp) _)
  have H1 := Lib.hid ((h.alloc (.cells #[.bool true, .slice A xs.length c] 52)).alloc (.cells #[] 24))
  have K1 := Lib.hid ((Blk.new w 52 #[.bool true, .slice A xs.length c]).alloc (.cells #[] 24))
  have HM := Lib.hid hm
  have H0 := Lib.hid h
  clear h hm
  go_enter Try.func120, Try.ntmps120
  go_wp2
  go_loopw [4, 6] (fun v i wr => ∃ k : Nat, k ≤ xs.length ∧ i = .int .i64 k ∧ Ow2 (w.heap.size + 1) wr v (formL true (xs.take k)) ∧ Sl cI wr (.slice A xs.length c) xs ∧ Blk wr w.heap.size 52 #[.bool true, .slice A xs.length c] ∧ Below w.heap.size w wr) (fun _ i _ => xs.length - (intOf i).toNat)
  case atStart => exact ⟨0, Nat.zero_le _, rfl, Ow2.lit (w.heap.size + 1) (w.heap.size + 1) _ (by simp) (Nat.le_refl _), H1.out, K1.out, HB0.out⟩
  case round =>
    obtain ⟨k, hk, rfl, ho, hs, hbk, hb⟩ := hrel
    have k1 := hbk.cell
    have k2 := hbk.lt
    have HO := Lib.hid ho; have HS := Lib.hid hs; have HK := Lib.hid hbk; have HW := Lib.hid hb
    clear ho hs hbk hb
    by_cases hlt : k < xs.length
    · obtain ⟨g, o, rfl, hgl, hc0⟩ := HS.out.atI hlt
      obtain ⟨m, hmm⟩ := Int.eq_ofNat_of_zero_le (HM.out _ (List.getElem_mem hlt)).1
      have hm60 : m ≤ 60 := by have := (HM.out _ (List.getElem_mem hlt)).2; omega
      have HF : Hid (formL true (xs.take (k + 1)) = formL true (xs.take k) ++ [elL true m]) := Lib.hid (by rw [formL_succ true hlt, hmm]; rfl)
      rw [hmm] at hc0
      clear hmm
      go_wp2_with fail
      refine (spec_l32Rank m _ (by omega)).mono ?_
      rintro e w2 ⟨u, rfl, ho, hb⟩
      have k5 := (HK.out.below hb k2).cell
      have ho' : Ow cN 95 wr.heap.size w2 u (elL true m) := ho
      have hbt : Below wr.heap.size wr w2 := hb
      have X1 := Lib.hid (HO.out.below hbt)
      have X2 := Lib.hid (HS.out.below hbt)
      have X3 := Lib.hid (HK.out.below hbt k2)
      have X4 := Lib.hid (bthen HW.out hbt)
      have HU := Lib.hid ho'
      have hz := X4.out.size
      have hzz := hbt.size
      clear k1 hc0 ho' hbt
      obtain ⟨A2, c2, rfl⟩ := HU.out.opn
      obtain ⟨hs, g1, g2, g3⟩ := Ow2.push X1.out HU.out (by
        obtain ⟨hs, q1, _, _⟩ := HO.out
        exact fun k hk => (q1.block k hk).2)
      have hlen : hs.length ≤ 61 := by rw [g2, formL_length, List.length_take]; omega
      have G1 := Lib.hid g1; have G3 := Lib.hid g3
      clear g1 g3 g2
      have G2 := Lib.hid hlen; clear hlen
      go_wp2_with (at_builtin; refine stopHere ?_)
      refine goHere ?_
      refine ap_one (K := cH) _ ty_nodes rfl _ _ rfl (B := w.heap.size + 1) (xs := hs) rfl G1.out (⟨A2, (elL true m).length, c2⟩ : Hd) rfl rfl (by have := G2.out; omega) ?_ ?_
      · omega
      intro v1 w5 ho1 hg1 hb1 hat1
      have Y1 := Lib.hid (G3.out _ _ ho1 hg1 (hat1.imp id fun e => by rw [e]; simp))
      have Y4 := Lib.hid (X4.out.trans (hb1.mono (by omega)))
      have Y3 := Lib.hid ((X3.out.alloc (.cells #[.slice A2 (elL true m).length c2] 24)).grown hg1 (G1.out.apart (g := w.heap.size) (.inl (by omega))))
      have Y2 : Hid (Sl cI w5 (.slice (some ⟨g, o, none⟩) xs.length c) xs) := Lib.hid (H0.out.below Y4.out)
      clear ho1 hg1 hb1 hat1
      go_wp2
      go_roundw
      case rel => exact ⟨k + 1, by omega, by go_num, by rw [HF.out]; exact Y1.out, Y2.out, Y3.out, Y4.out⟩
      case measure => simp [intOf]; omega
    · obtain rfl : k = xs.length := by omega
      have hE : xs.take xs.length = xs := List.take_length
      rw [hE] at HO
      by_cases h0 : xs.length = 0
      · have HV : Hid (Sl2 cN wr u4 []) := Lib.hid (by have := HO.out.sl2; rwa [List.eq_nil_of_length_eq_zero h0] at this)
        have HR : Hid (outL true xs = joinE 3) := Lib.hid (by unfold outL; rw [if_pos h0]; rfl)
        clear h0
        go_wp2_with fail
        refine (spec_l02All_nil 3 _ _ HV.out).mono ?_
        rintro e w2 ⟨u, rfl, ho, hb⟩
        have X4 := Lib.hid (bthen HW.out hb)
        have HU := Lib.hid ho
        have hz := HW.out.size
        clear ho hb
        go_wp2_with fail
        refine (spec_l02Made _ _ _ _ HU.out).mono ?_
        rintro e w3 ⟨r, rfl, ho, rfl⟩
        have HV2 := Lib.hid (ho.mono hz)
        clear ho
        go_wp2
        go_ret2
        exact ⟨_, by rw [HR.out]; rfl, by rw [HR.out]; exact HV2.out, X4.out⟩
      · have HR : Hid (outL true xs = joinL 3 (formL true xs)) := Lib.hid (by unfold outL; rw [if_neg h0]; rfl)
        have HN : Hid (0 < (formL true xs).length) := Lib.hid (by show _ < _; rw [formL_length]; omega)
        have HL1 : Hid ((formL true xs).length ≤ 262144) := Lib.hid (by show _ ≤ _; rw [formL_length]; omega)
        have HL2 : Hid ((formL true xs).flatten.length ≤ 262144) := Lib.hid (by have := formL_flat_le true xs HM.out; show _ ≤ _; omega)
        clear h0
        go_wp2_with fail
        refine (spec_l02All 3 _ _ _ HO.out.sl2 HN.out HL1.out HL2.out).mono ?_
        rintro e w2 ⟨u, rfl, ho, hb⟩
        have X4 := Lib.hid (bthen HW.out hb)
        have HU := Lib.hid ho
        have hz := HW.out.size
        clear ho hb
        go_wp2_with fail
        refine (spec_l02Made _ _ _ _ HU.out).mono ?_
        rintro e w3 ⟨r, rfl, ho, rfl⟩
        have HV2 := Lib.hid (ho.mono hz)
        clear ho
        go_wp2
        go_ret2
        exact ⟨_, by rw [HR.out]; rfl, by rw [HR.out]; exact HV2.out, X4.out⟩
theorem spec_l32Formula_false (v : Value) (xs : List Int) (w : World) (h : Sl cI w v xs) (hl : xs.length ≤ 61) (hm : ∀ x ∈ xs, 0 ≤ x ∧ x ≤ 60) :
    Calls Try.prog 120 #[.agg #[.bool false, v]] w fun e w' => ∃ u, e = .returned (.tuple #[u, .int .i64 (madeC (outL false xs))]) ∧ Ow cN 95 w.heap.size w' u (madeL (outL false xs)) ∧ Below w.heap.size w w' := by
  obtain ⟨A, c, rfl⟩ := h.opn
  have HB0 : Hid (Below w.heap.size w ((w.alloc (.cells #[.bool false, .slice A xs.length c] 52)).alloc (.cells #[] 24))) := Lib.hid (((Below.refl _ _).alloc (Nat.le_refl _) _).alloc (by simp) _)
  have H1 := Lib.hid ((h.alloc (.cells #[.bool false, .slice A xs.length c] 52)).alloc (.cells #[] 24))
  have K1 := Lib.hid ((Blk.new w 52 #[.bool false, .slice A xs.length c]).alloc (.cells #[] 24))
  have HM := Lib.hid hm
  have H0 := Lib.hid h
  clear h hm
  go_enter Try.func120, Try.ntmps120
  go_wp2
  go_loopw [4, 6] (fun v i wr => ∃ k : Nat, k ≤ xs.length ∧ i = .int .i64 k ∧ Ow2 (w.heap.size + 1) wr v (formL false (xs.take k)) ∧ Sl cI wr (.slice A xs.length c) xs ∧ Blk wr w.heap.size 52 #[.bool false, .slice A xs.length c] ∧ Below w.heap.size w wr) (fun _ i _ => xs.length - (intOf i).toNat)
  case atStart => exact ⟨0, Nat.zero_le _, rfl, Ow2.lit (w.heap.size + 1) (w.heap.size + 1) _ (by simp) (Nat.le_refl _), H1.out, K1.out, HB0.out⟩
  case round =>
    obtain ⟨k, hk, rfl, ho, hs, hbk, hb⟩ := hrel
    have k1 := hbk.cell
    have k2 := hbk.lt
    have HO := Lib.hid ho; have HS := Lib.hid hs; have HK := Lib.hid hbk; have HW := Lib.hid hb
    clear ho hs hbk hb
    by_cases hlt : k < xs.length
    · obtain ⟨g, o, rfl, hgl, hc0⟩ := HS.out.atI hlt
      obtain ⟨m, hmm⟩ := Int.eq_ofNat_of_zero_le (HM.out _ (List.getElem_mem hlt)).1
      have hm60 : m ≤ 60 := by have := (HM.out _ (List.getElem_mem hlt)).2; omega
      have HF : Hid (formL false (xs.take (k + 1)) = formL false (xs.take k) ++ [elL false m]) := Lib.hid (by rw [formL_succ false hlt, hmm]; rfl)
      rw [hmm] at hc0
      clear hmm
      go_wp2_with fail
      refine (spec_l32Rank m _ (by omega)).mono ?_
      rintro e w2 ⟨u, rfl, ho, hb⟩
      have HB1 := Lib.hid hb
      have HO1 := Lib.hid ho
      have hz1 := hb.size
      have k5 := (HK.out.below hb k2).cell
      clear ho hb
      go_wp2_with fail
      refine (spec_l02Not _ _ _ HO1.out.sl (by have := rankL_length m; omega)).mono ?_
      rintro e w3 ⟨u3, rfl, ho, hb⟩
      clear k5
      have ho' : Ow cN 95 wr.heap.size w3 u3 (elL false m) := ho.mono hz1
      have hbt : Below wr.heap.size wr w3 := bthen HB1.out hb
      have X1 := Lib.hid (HO.out.below hbt)
      have X2 := Lib.hid (HS.out.below hbt)
      have X3 := Lib.hid (HK.out.below hbt k2)
      have X4 := Lib.hid (bthen HW.out hbt)
      have HU := Lib.hid ho'
      have hz := X4.out.size
      have hzz := hbt.size
      clear k1 hc0 ho' hbt
      obtain ⟨A2, c2, rfl⟩ := HU.out.opn
      obtain ⟨hs, g1, g2, g3⟩ := Ow2.push X1.out HU.out (by
        obtain ⟨hs, q1, _, _⟩ := HO.out
        exact fun k hk => (q1.block k hk).2)
      have hlen : hs.length ≤ 61 := by rw [g2, formL_length, List.length_take]; omega
      have G1 := Lib.hid g1; have G3 := Lib.hid g3
      clear g1 g3 g2
      have G2 := Lib.hid hlen; clear hlen
      go_wp2_with (at_builtin; refine stopHere ?_)
      refine goHere ?_
      refine ap_one (K := cH) _ ty_nodes rfl _ _ rfl (B := w.heap.size + 1) (xs := hs) rfl G1.out (⟨A2, (elL false m).length, c2⟩ : Hd) rfl rfl (by have := G2.out; omega) ?_ ?_
      · omega
      intro v1 w5 ho1 hg1 hb1 hat1
      have Y1 := Lib.hid (G3.out _ _ ho1 hg1 (hat1.imp id fun e => by rw [e]; simp))
      have Y4 := Lib.hid (X4.out.trans (hb1.mono (by omega)))
      have Y3 := Lib.hid ((X3.out.alloc (.cells #[.slice A2 (elL false m).length c2] 24)).grown hg1 (G1.out.apart (g := w.heap.size) (.inl (by omega))))
      have Y2 : Hid (Sl cI w5 (.slice (some ⟨g, o, none⟩) xs.length c) xs) := Lib.hid (H0.out.below Y4.out)
      clear ho1 hg1 hb1 hat1
      go_wp2
      go_roundw
      case rel => exact ⟨k + 1, by omega, by go_num, by rw [HF.out]; exact Y1.out, Y2.out, Y3.out, Y4.out⟩
      case measure => simp [intOf]; omega
    · obtain rfl : k = xs.length := by omega
      have hE : xs.take xs.length = xs := List.take_length
      rw [hE] at HO
      by_cases h0 : xs.length = 0
      · have HV : Hid (Sl2 cN wr u4 []) := Lib.hid (by have := HO.out.sl2; rwa [List.eq_nil_of_length_eq_zero h0] at this)
        have HR : Hid (outL false xs = joinE 2) := Lib.hid (by unfold outL; rw [if_pos h0]; rfl)
        clear h0
        go_wp2_with fail
        refine (spec_l02All_nil 2 _ _ HV.out).mono ?_
        rintro e w2 ⟨u, rfl, ho, hb⟩
        have X4 := Lib.hid (bthen HW.out hb)
        have HU := Lib.hid ho
        have hz := HW.out.size
        clear ho hb
        go_wp2_with fail
        refine (spec_l02Made _ _ _ _ HU.out).mono ?_
        rintro e w3 ⟨r, rfl, ho, rfl⟩
        have HV2 := Lib.hid (ho.mono hz)
        clear ho
        go_wp2
        go_ret2
        exact ⟨_, by rw [HR.out]; rfl, by rw [HR.out]; exact HV2.out, X4.out⟩
      · have HR : Hid (outL false xs = joinL 2 (formL false xs)) := Lib.hid (by unfold outL; rw [if_neg h0]; rfl)
        have HN : Hid (0 < (formL false xs).length) := Lib.hid (by show _ < _; rw [formL_length]; omega)
        have HL1 : Hid ((formL false xs).length ≤ 262144) := Lib.hid (by show _ ≤ _; rw [formL_length]; omega)
        have HL2 : Hid ((formL false xs).flatten.length ≤ 262144) := Lib.hid (by have := formL_flat_le false xs HM.out; show _ ≤ _; omega)
        clear h0
        go_wp2_with fail
        refine (spec_l02All 2 _ _ _ HO.out.sl2 HN.out HL1.out HL2.out).mono ?_
        rintro e w2 ⟨u, rfl, ho, hb⟩
        have X4 := Lib.hid (bthen HW.out hb)
        have HU := Lib.hid ho
        have hz := HW.out.size
        clear ho hb
        go_wp2_with fail
        refine (spec_l02Made _ _ _ _ HU.out).mono ?_
        rintro e w3 ⟨r, rfl, ho, rfl⟩
        have HV2 := Lib.hid (ho.mono hz)
        clear ho
        go_wp2
        go_ret2
        exact ⟨_, by rw [HR.out]; rfl, by rw [HR.out]; exact HV2.out, X4.out⟩
end Go.Proofs.Ytbejakkcdbhmaaa

/- Contracts of chapter 12, of the program: AreModallyEquivalent, at GL. -/
import Derived.Test.YtgcoohlakcncbaaGreatJK
namespace Go.Proofs.YtgcoohlakcncbaaGreat
open Go.RowKit
set_option linter.unusedVariables false
set_option linter.unusedSimpArgs false
noncomputable def ameR (f g : Fm) : Array Value := if scd [f] [g] = 0 then #[.bool (thB [f] [g] && thB [g] [f]), .int .i64 0] else #[.bool false, .int .i64 3]
set_option maxRecDepth 100000 in
set_option maxHeartbeats 800000 in
theorem impl_AreModallyEquivalent_GL (f g : Fm) (v u : Value) (w : World) (h : Sl cN w v (enc f)) (h' : Sl cN w u (enc g)) (hl : (enc f).length ≤ 40) (hl' : (enc g).length ≤ 40) (hf : f.ok = true) (hg : g.ok = true) :
    Calls Tryz.prog 53 #[.string ⟨#[71, 76]⟩, v, u] w fun e w' => e = .returned (.tuple (ameR f g)) ∧ Below w.heap.size w w' := by
  obtain ⟨A, c, rfl⟩ := h.opn
  obtain ⟨B, d, rfl⟩ := h'.opn
  have HArF := Lib.hid (fun W (h : Sl cN W (.slice A (enc f).length c) (enc f)) (h' : Sl cN W (.slice B (enc g).length d) (enc g)) => impl_areFormulas _ _ _ (Sl2.two' h h' 26 W.heap.size rfl) (by simp) (by intro l hl; simp at hl; rcases hl with rfl | rfl <;> omega))
  have HC : Hid ([enc f, enc g].all isF = true) := Lib.hid (by
    have h1 := (isF_iff (enc f)).2 ⟨f, hf, rfl, hl⟩
    have h2 := (isF_iff (enc g)).2 ⟨g, hg, rfl, hl'⟩
    simp [h1, h2])
  rw [HC.out] at HArF
  have hgd : gdF ([f] ++ [g]) := fun x hx => by
    rcases List.mem_cons.1 hx with rfl | hx
    · exact ⟨hf, hl⟩
    · rw [List.mem_singleton.1 hx]; exact ⟨hg, hl'⟩
  have hgd2 : gdF ([g] ++ [f]) := fun x hx => hgd x (by simp at hx ⊢; rcases hx with h | h; exact .inr h; exact .inl h)
  have heq : elF ([g] ++ [f]) = elF ([f] ++ [g]) := elF_eq fun x => by simp [or_comm]
  have HS1 := Lib.hid (fun W (h1 : Sl cN W (.slice A (enc f).length c) (enc f)) (h2 : Sl cN W (.slice B (enc g).length d) (enc g)) => impl_sequentOf f g _ _ W h1 h2 (by omega) (by omega) hf hg)
  have HS2 := Lib.hid (fun W (h1 : Sl cN W (.slice A (enc f).length c) (enc f)) (h2 : Sl cN W (.slice B (enc g).length d) (enc g)) => impl_sequentOf g f _ _ W h2 h1 (by omega) (by omega) hg hf)
  have HSc := Lib.hid (fun (z : Nat) A0 A1 c0 c1 W h1 h2 h3 h4 h5 => impl_searchableCode1 [f] [g] (by simp) (by simp) hgd z A0 A1 c0 c1 W h1 h2 h3 h4 h5)
  have HT1 := Lib.hid (fun (h8 : (elF ([f] ++ [g])).length ≤ 8) lv rv W (h1 : Sl cS W lv ([f].map txt)) (h2 : Sl cS W rv ([g].map txt)) => impl_isModalTheorem [f] [g] lv rv W h1 h2 hgd (by simp) (by omega))
  have HT2 := Lib.hid (fun (h8 : (elF ([f] ++ [g])).length ≤ 8) lv rv W (h1 : Sl cS W lv ([g].map txt)) (h2 : Sl cS W rv ([f].map txt)) => impl_isModalTheorem [g] [f] lv rv W h1 h2 hgd2 (by simp) (by rw [heq]; omega))
  have HRt : Hid (scd [f] [g] = 0 → ameR f g = #[.bool (thB [f] [g] && thB [g] [f]), .int .i64 0]) := Lib.hid fun h => by unfold ameR; rw [if_pos h]
  have HRf : Hid (scd [f] [g] = 3 → ameR f g = #[.bool false, .int .i64 3]) := Lib.hid fun h => by unfold ameR; rw [if_neg (by rw [h]; decide)]
  have HCs : Hid ((scd [f] [g] = 0 ∧ (elF ([f] ++ [g])).length ≤ 8) ∨ scd [f] [g] = 3) := Lib.hid (by unfold scd; split; exact .inr rfl; exact .inl ⟨rfl, by omega⟩)
  have HF := Lib.hid h
  have HG := Lib.hid h'
  clear h h' hgd hgd2 heq hf hg hl hl'
  generalize (enc f).length = nf at *
  generalize (enc g).length = ng at *
  generalize thB [f] [g] = b1 at *
  generalize thB [g] [f] = b2 at *
  generalize ameR f g = res at *
  generalize scd [f] [g] = cd at *
  go_enter Tryz.func53, Tryz.ntmps53
  go_wp2_with fail
  refine (impl_isSearchLogic_GL _).mono ?_
  rintro e w1 ⟨rfl, hb⟩
  have HB1 := Lib.hid hb
  have HF1 := Lib.hid (HF.out.below hb)
  have HG1 := Lib.hid (HG.out.below hb)
  have HA1 := Lib.hid (HArF.out _ HF1.out HG1.out)
  have hb2 := below_alloc' w1 (.cells #[.slice A nf c, .slice B ng d] 26)
  have HB2 := Lib.hid (bthen HB1.out hb2)
  have HF2 := Lib.hid (HF1.out.below hb2)
  have HG2 := Lib.hid (HG1.out.below hb2)
  clear hb hb2 HArF
  go_wp2_with fail
  refine HA1.out.mono ?_
  rintro e w2 ⟨rfl, hb⟩
  have HB3 := Lib.hid (bthen HB2.out hb)
  have HF3 := Lib.hid (HF2.out.below hb)
  have HG3 := Lib.hid (HG2.out.below hb)
  clear hb
  go_wp2_with fail
  refine (HS1.out _ HF3.out HG3.out).mono ?_
  rintro e w4 ⟨lv, rw4, rfl, hlv, hrv, hb⟩
  obtain ⟨A0, c0, rfl⟩ := hlv.opn
  obtain ⟨A1, c1, rfl⟩ := hrv.opn
  have e1 : ([f].map txt).length = [f].length := rfl
  have e2 : ([g].map txt).length = [g].length := rfl
  rw [e1] at hlv
  rw [e2] at hrv
  rw [e1, e2]
  clear e1 e2
  have HB4 := Lib.hid (bthen HB3.out hb)
  have HF4 := Lib.hid (HF3.out.below hb)
  have HG4 := Lib.hid (HG3.out.below hb)
  have hb2 := below_alloc' w4 (.cells #[.slice A0 [f].length c0, .slice A1 [g].length c1] 41)
  have K2 := (Blk.new w4 41 #[.slice A0 [f].length c0, .slice A1 [g].length c1])
  have HSc1 := Lib.hid (HSc.out w4.heap.size _ _ _ _ _ K2.lt (K2.cell 0) (K2.cell 1) (hlv.below hb2) (hrv.below hb2))
  have HB5 := Lib.hid (bthen HB4.out hb2)
  have HF5 := Lib.hid (HF4.out.below hb2)
  have HG5 := Lib.hid (HG4.out.below hb2)
  clear hb hb2 K2 HSc hlv hrv
  go_wp2_with fail
  refine HSc1.out.mono ?_
  rintro e w6 ⟨rfl, hb⟩
  have HB6 := Lib.hid (bthen HB5.out hb)
  have HF6 := Lib.hid (HF5.out.below hb)
  have HG6 := Lib.hid (HG5.out.below hb)
  clear hb HSc1
  rcases HCs.out with ⟨rfl, h8⟩ | rfl
  · have T1 := Lib.hid (HT1.out h8)
    have T2 := Lib.hid (HT2.out h8)
    clear h8 HT1 HT2
    go_wp2_with fail
    refine (HS1.out _ HF6.out HG6.out).mono ?_
    rintro e w7 ⟨lv7, rv7, rfl, hlv, hrv, hb⟩
    have HT7 := Lib.hid (T1.out _ _ _ hlv hrv)
    have HB7 := Lib.hid (bthen HB6.out hb)
    have HF7 := Lib.hid (HF6.out.below hb)
    have HG7 := Lib.hid (HG6.out.below hb)
    clear hb hlv hrv
    go_wp2_with fail
    refine HT7.out.mono ?_
    rintro e w8 ⟨rfl, hb⟩
    have HB8 := Lib.hid (bthen HB7.out hb)
    have HF8 := Lib.hid (HF7.out.below hb)
    have HG8 := Lib.hid (HG7.out.below hb)
    clear hb
    cases b1
    · go_wp2
      go_ret2
      exact ⟨by rw [HRt.out (by trivial)]; rfl, HB8.out⟩
    · go_wp2_with fail
      refine (HS2.out _ HF8.out HG8.out).mono ?_
      rintro e w9 ⟨lv9, rv9, rfl, hlv, hrv, hb⟩
      have HT9 := Lib.hid (T2.out _ _ _ hlv hrv)
      have HB9 := Lib.hid (bthen HB8.out hb)
      clear hb hlv hrv
      go_wp2_with fail
      refine HT9.out.mono ?_
      rintro e w10 ⟨rfl, hb⟩
      have HB10 := Lib.hid (bthen HB9.out hb)
      clear hb
      go_wp2
      go_ret2
      exact ⟨by rw [HRt.out (by trivial)]; rfl, HB10.out⟩
  · go_wp2
    go_ret2
    exact ⟨by rw [HRf.out (by trivial)]; rfl, HB6.out⟩
end Go.Proofs.YtgcoohlakcncbaaGreat

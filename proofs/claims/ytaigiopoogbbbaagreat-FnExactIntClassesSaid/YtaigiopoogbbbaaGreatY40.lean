/- Contracts of the program: does a formula imply another one; are they equivalent? -/
import Derived.Test.YtaigiopoogbbbaaGreatY38
import Derived.Test.YtaigiopoogbbbaaGreatY39
namespace Go.Proofs.YtaigiopoogbbbaaGreat
open Go.RowKit Go.Maps
set_option linter.unusedVariables false
set_option linter.unusedSimpArgs false
set_option maxRecDepth 100000 in
theorem impl_newDecider (C : List Fm) (w : World) :
    Calls Tryz.prog 61 #[] w fun e w' => ∃ D M, e = .returned (.pointer (some ⟨D, 0, none⟩)) ∧ w.heap.size ≤ M ∧ DecS C w' D M [] ∧ Below w.heap.size w w' := by
  have hmm := @run_makeMap Tryz.prog
  have hk := Blk.new' (w.alloc (.map #[] 0)) 76 #[.map (some w.heap.size)] (g := w.heap.size + 1) (by simp)
  have hb := bthen (below_alloc' w (.map #[] 0)) (below_alloc' (w.alloc (.map #[] 0)) (.cells #[.map (some w.heap.size)] 76))
  have hm : DecS C ((w.alloc (.map #[] 0)).alloc (.cells #[.map (some w.heap.size)] 76)) (w.heap.size + 1) w.heap.size [] :=
    ⟨(MemG.made C w).grown (World.grownBy_alloc _ _ none) (by simp), hk.lt, by omega, hk.cell 0⟩
  have HB := Lib.hid hb
  have HM := Lib.hid hm
  clear hk hb hm
  go_enter Tryz.func61, Tryz.ntmps61
  go_wp2
  go_ret
  exact ⟨_, _, rfl, Nat.le_refl _, HM.out, HB.out⟩
theorem impl_putF (v u : Value) (L M : List Fm) (w : World) (h : Sl cS w v (L.map txt)) (h' : Sl cS w u (M.map txt)) (hl : L.length + M.length ≤ 1048576) :
    Calls Tryz.prog 65 #[v, u] w fun e w' => ∃ A c, e = .returned (.slice A (pu L M).length c) ∧ Sl cS w' (.slice A (pu L M).length c) ((pu L M).map txt) ∧ Below w.heap.size w w' := by
  rw [← bs_txM] at h h'
  refine (impl_put v u (tx L) (tx M) w h h' (by simpa [tx] using hl)).mono ?_
  rintro e w' ⟨r, rfl, ho, hb⟩
  rw [tx_pu, bs_txM] at ho
  obtain ⟨A', c', rfl⟩ := ho.opn
  rw [List.length_map] at ho ⊢
  exact ⟨A', c', rfl, ho.sl, hb⟩
set_option maxRecDepth 100000 in
theorem impl_provableD (C : List Fm) (D M : Nat) (L : List Fm) (c : Fm) (v : Value) (w : World) (hC : ClC C) (hL : ∀ f ∈ L, f ∈ C) (hc : c ∈ C) (hm : swL L + sw c ≤ 200000) (hD : DecS C w D M []) (h : Sl cS w v (L.map txt)) :
    Calls Tryz.prog 62 #[.pointer (some ⟨D, 0, none⟩), v, .string (txt c)] w fun e w' => e = .returned (.bool (vlB L c)) ∧ Km M w w' := by
  have hok : ∀ f ∈ L, f.ok = true := fun f hf => hC.ok _ (hL f hf)
  have hmem := pu_mem hok (M := []) (fun f hf => by cases hf)
  have hgm : ∀ f ∈ pu L [], f.ok = true ∧ f ∈ C := fun f hf => by
    rcases (hmem f).1 hf with h1 | h1
    · exact ⟨hok f h1, hL f h1⟩
    · cases h1
  have hg : GC C (pu L []) c := ⟨hC, ⟨pu_srt _ _, hgm, hc⟩, by have := pu_sw L []; simp only [swL] at this; simp only [gsw]; omega⟩
  have HV : Hid (vlB (pu L []) c = vlB L c) := Lib.hid (vlB_eq (Val.congr fun x => by rw [hmem x]; simp))
  have HPu := Lib.hid (impl_putF v (.slice none 0 0) L [] w h Sl.nil (by have := swL_len L; simp; omega))
  have HP := Lib.hid (fun W A k (hW : DecS C W D M []) hs => proves_all C D M (gsw (pu L [], c) + 1) (pu L []) c A (pu L []).length k W W [] hg (Nat.lt_succ_self _) (StM.start hW) hs)
  have HD := Lib.hid hD
  clear hmem hok hg hD h
  go_enter Tryz.func62, Tryz.ntmps62
  go_wp2_with fail
  refine HPu.out.mono ?_
  rintro e w1 ⟨A1, c1, rfl, hs, hb⟩
  have HP1 := Lib.hid (HP.out w1 A1 c1 (HD.out.below hb) hs)
  have HB := Lib.hid hb
  clear HP hs hb
  go_wp2_with fail
  refine HP1.out.mono ?_
  rintro e w2 ⟨rfl, hkm, -⟩
  have HK : Hid (Km M w w2) := Lib.hid ((KpS.of HB.out).trans hkm)
  clear hkm
  go_wp2
  go_ret
  exact ⟨by rw [← HV.out]; rfl, HK.out⟩
theorem impl_provable (C : List Fm) (L : List Fm) (c : Fm) (v : Value) (w : World) (hC : ClC C) (hL : ∀ f ∈ L, f ∈ C) (hc : c ∈ C) (hm : swL L + sw c ≤ 200000) (h : Sl cS w v (L.map txt)) :
    Calls Tryz.prog 52 #[v, .string (txt c)] w fun e w' => e = .returned (.bool (vlB L c)) ∧ Below w.heap.size w w' := by
  have HN := Lib.hid (impl_newDecider C w)
  have HP := Lib.hid (fun D M W (hW : DecS C W D M []) h1 => impl_provableD C D M L c v W hC hL hc hm hW h1)
  have H := Lib.hid h
  clear h
  go_enter Tryz.func52, Tryz.ntmps52
  go_wp2_with fail
  refine HN.out.mono ?_
  rintro e w1 ⟨D, M, rfl, hM, hD, hb⟩
  have HP1 := Lib.hid (HP.out D M w1 hD (H.out.below hb))
  have HB := Lib.hid hb
  have HMM := Lib.hid hM
  clear HP hD hb hM
  go_wp2_with fail
  refine HP1.out.mono ?_
  rintro e w2 ⟨rfl, hkm⟩
  have HK : Hid (Below w.heap.size w w2) := Lib.hid (HB.out.trans (KpS.toBelow hkm HB.out.size fun k hk e => by have := HMM.out; omega))
  clear hkm
  go_wp2
  go_ret
  exact ⟨rfl, HK.out⟩
/-- two formulas that are small together -/
theorem clC_two {f g : Fm} (hf : f.ok = true) (hg : g.ok = true) (pf : f.plain = true) (pg : g.plain = true) (hl : (enc f).length + (enc g).length ≤ 20) : ClC (cls f ++ cls g) := by
  refine ⟨fun h hm => ?_, fun h hm => ?_, fun h hm => ?_, ?_, (clsd_cls f).app (clsd_cls g)⟩
  · exact (List.mem_append.1 hm).elim (fun q => (cls_gd f h hf pf q).1) (fun q => (cls_gd g h hg pg q).1)
  · exact (List.mem_append.1 hm).elim (fun q => (cls_gd f h hf pf q).2.1) (fun q => (cls_gd g h hg pg q).2.1)
  · rcases List.mem_append.1 hm with q | q
    · have := (cls_gd f h hf pf q).2.2; omega
    · have := (cls_gd g h hg pg q).2.2; omega
  · have h1 := cls_count f .fls
    have h2 := cls_count g .fls
    rw [List.length_append]; omega
theorem impl_implies (f g : Fm) (v u : Value) (w : World) (hf : f.ok = true) (hg : g.ok = true) (pf : f.plain = true) (pg : g.plain = true) (hl : (enc f).length + (enc g).length ≤ 20) (h : Sl cN w v (enc f)) (h' : Sl cN w u (enc g)) :
    Calls Tryz.prog 34 #[v, u] w fun e w' => e = .returned (.bool (vlB [f] g)) ∧ Below w.heap.size w w' := by
  obtain ⟨A, c, rfl⟩ := h.opn
  obtain ⟨B, d, rfl⟩ := h'.opn
  have HT := Lib.hid (txtF f h (Below.refl _ _) (by omega) hf)
  have HT2 := Lib.hid (fun W (hW : Below w.heap.size w W) => txtF g h' hW (by omega) hg)
  have HP := Lib.hid (fun W v h1 => impl_provable (cls f ++ cls g) [f] g v W (clC_two hf hg pf pg hl) (fun x hx => by rw [List.mem_singleton.1 hx]; exact List.mem_append_left _ (cls_self f)) (List.mem_append_right _ (cls_self g)) (by have := sw_small (f := f) (by omega); have := sw_small (f := g) (by omega); simp only [swL]; omega) h1)
  clear h h'
  go_enter Tryz.func34, Tryz.ntmps34
  go_wp2_with fail
  refine HT.out.mono ?_
  rintro e w1 ⟨rfl, hb⟩
  have hS := Sl.txt1 w1 f 9 _ rfl
  have HS := Lib.hid hS
  have HB1 := Lib.hid (bthen hb (below_alloc' w1 (.cells #[.string (txt f)] 9)))
  clear hb hS
  go_wp2_with fail
  refine (HT2.out _ HB1.out).mono ?_
  rintro e w2 ⟨rfl, hb⟩
  have HP1 := Lib.hid (HP.out w2 _ (HS.out.below hb))
  have HB2 := Lib.hid (bthen HB1.out hb)
  clear HP hb
  go_wp2_with fail
  refine HP1.out.mono ?_
  rintro e w3 ⟨rfl, hb⟩
  have HB3 := Lib.hid (bthen HB2.out hb)
  clear hb
  go_wp2
  go_ret
  exact ⟨rfl, HB3.out⟩
theorem impl_equivalent (f g : Fm) (v u : Value) (w : World) (hf : f.ok = true) (hg : g.ok = true) (pf : f.plain = true) (pg : g.plain = true) (hl : (enc f).length + (enc g).length ≤ 20) (h : Sl cN w v (enc f)) (h' : Sl cN w u (enc g)) :
    Calls Tryz.prog 22 #[v, u] w fun e w' => e = .returned (.bool (eqv f g)) ∧ Below w.heap.size w w' := by
  obtain ⟨A, c, rfl⟩ := h.opn
  obtain ⟨B, d, rfl⟩ := h'.opn
  have H1 := Lib.hid (impl_implies f g _ _ w hf hg pf pg hl h h')
  have H2 := Lib.hid (fun W (hW : Below w.heap.size w W) => impl_implies g f _ _ W hg hf pg pf (by omega) (h'.below hW) (h.below hW))
  have HV : Hid (eqv f g = (vlB [f] g && vlB [g] f)) := Lib.hid rfl
  clear h h'
  generalize vlB [f] g = x at *
  generalize vlB [g] f = y at *
  go_enter Tryz.func22, Tryz.ntmps22
  go_wp2_with fail
  refine H1.out.mono ?_
  rintro e w1 ⟨rfl, hb⟩
  have HB1 := Lib.hid hb
  have HC2 := Lib.hid (H2.out w1 hb)
  clear hb H2
  cases x
  · go_wp2
    go_ret
    exact ⟨by rw [HV.out]; rfl, HB1.out⟩
  · go_wp2_with fail
    refine HC2.out.mono ?_
    rintro e w2 ⟨rfl, hb⟩
    have HB2 := Lib.hid (bthen HB1.out hb)
    clear hb
    go_wp2
    go_ret
    exact ⟨by rw [HV.out]; rfl, HB2.out⟩
end Go.Proofs.YtaigiopoogbbbaaGreat

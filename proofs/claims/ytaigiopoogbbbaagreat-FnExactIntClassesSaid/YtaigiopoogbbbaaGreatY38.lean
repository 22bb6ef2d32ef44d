/- Contracts of the program: the search with its memory; what it says of sequents and of formulas. -/
import Derived.Test.YtaigiopoogbbbaaGreatY37
namespace Go.Proofs.YtaigiopoogbbbaaGreat
open Go.RowKit Go.Maps
set_option linter.unusedVariables false
set_option linter.unusedSimpArgs false
theorem keyG_size {L : List Fm} {c : Fm} (hL : ∀ f ∈ L, (enc f).length ≤ 20) (hc : (enc c).length ≤ 20) (hl : L.length ≤ 200000) : (keyG L c).size ≤ 9000000000 := by
  have h1 := kf_size (L.map txt) ⟨#[]⟩ fun s hs => by
    obtain ⟨f, hf, rfl⟩ := List.mem_map.1 hs
    have := txt_120 f; have := hL f hf; omega
  have h2 := kf_size [txt c] (kf ⟨#[]⟩ (L.map txt) ++ ⟨#[59]⟩) fun s hs => by
    rw [List.mem_singleton.1 hs]
    have := txt_120 c; omega
  have e0 : (⟨#[]⟩ : ByteArray).size = 0 := rfl
  have e1 : (kf ⟨#[]⟩ (L.map txt) ++ (⟨#[59]⟩ : ByteArray)).size = (kf ⟨#[]⟩ (L.map txt)).size + 1 := by rw [ByteArray.size_append]; rfl
  rw [e0, List.length_map] at h1
  rw [e1] at h2
  unfold keyG
  simp only [List.length_singleton] at h2
  omega
/-- the map's block is written, the decider stays -/
theorem DecS.put {C : List Fm} {w w' : World} {D M : Nat} {G G' : List (List Fm × Fm)} (h : DecS C w D M G) (hm : MemG C w' M G') (hg : w.grownBy w' (some M)) : DecS C w' D M G' := by
  refine ⟨hm, Nat.lt_of_lt_of_le h.lt hg.size, h.ne, ?_⟩
  have e : w'.heap[D]? = w.heap[D]? := hg.block D h.lt (fun e => h.ne (by injection e))
  exact (World.cell?_of_block (w := w) (a := ⟨D, 0, none⟩) e).trans h.cell
set_option maxRecDepth 100000 in
theorem impl_proves (C : List Fm) (D M m : Nat) (HP : ∀ m0, m0 < m → PrL C D M m0) : PrL C D M m := by
  intro L c A n k w0 w G0 hg hm hS hs
  obtain ⟨A', k', e⟩ := hs.opn
  injection e with e1 e2 e3
  subst e1 e2 e3
  rw [List.length_map] at hs ⊢
  have hlen := hg.len
  have hLok : ∀ g ∈ L, (enc g).length ≤ 20 := fun g h => hg.cc.sh _ (hg.gd.2.1 g h).2
  have hsh : (enc c).length ≤ 20 := hg.cc.sh _ hg.gd.2.2
  have hks := keyG_size hLok hsh hlen
  obtain ⟨hkm0, G', hD, hGs⟩ := hS
  have hb0 := below_alloc' w (.cells #[.slice A L.length k, .string (txt c)] 80)
  have HK0 := Lib.hid (Blk.new w 80 #[.slice A L.length k, .string (txt c)])
  have HD0 := Lib.hid (hD.below hb0)
  have HL0 := Lib.hid (hs.below hb0)
  have HKM0 := Lib.hid (hkm0.below hb0)
  have HG := Lib.hid hg
  have HKY := Lib.hid (fun W v u (h1 : Sl cS W v (L.map txt)) (h2 : Sl cS W u [txt c]) => impl_sequentKey v u (L.map txt) [txt c] W h1 h2 (by rw [List.length_map]; omega) (by simp) (fun s hs => by
    obtain ⟨f, hf, rfl⟩ := List.mem_map.1 hs
    have := txt_120 f; have := hLok f hf; omega) (fun s hs => by
    rw [List.mem_singleton.1 hs]
    have := txt_120 c; omega))
  have HDC := Lib.hid (fun W (hW : DecS C W D M (G' ++ G0)) (h1 : Sl cS W (.slice A L.length k) (L.map txt)) => impl_decide C D M (gsw (L, c)) (HP _ hm) L c A L.length k W W (G' ++ G0) hg rfl (StM.start hW) h1)
  have HGS := Lib.hid hGs
  clear hb0 hs hg hD hkm0 hGs HP
  go_enter Tryz.func64, Tryz.ntmps64
  go_upto_region 1 with fail
  generalize World.alloc w _ = w1 at *
  have k0 := HK0.out.cell 0
  have k1 := HK0.out.cell 1
  have l1 := HK0.out.lt
  go_wp2_with fail
  have hbs := below_alloc' w1 (.cells #[.string (txt c)] 9)
  have hsl1 := Sl.txt1 w1 c 9 _ rfl
  refine (HKY.out _ _ _ (HL0.out.below hbs) hsl1).mono ?_
  rintro e w2 ⟨rfl, hb⟩
  have hbb := bthen hbs hb
  have HD1 := Lib.hid (HD0.out.below hbb)
  have HL1 := Lib.hid (HL0.out.below hbb)
  have HKM1 := Lib.hid (HKM0.out.below hbb)
  have HK1 := Lib.hid (HK0.out.below hbb l1)
  clear HD0 HL0 HKM0 HK0 hbs hsl1 hb hbb HKY k0 k1 l1
  obtain ⟨x, kb, hlk, hkt, hkf⟩ := HD1.out.mem.look HG.out.cc.ok HG.out.gd hks
  have HKT := Lib.hid hkt
  have HKF := Lib.hid hkf
  have hcd := HD1.out.cell
  have hld := HD1.out.lt
  have hkd : kf (kf ⟨#[]⟩ (L.map txt) ++ ⟨#[59]⟩) [txt c] = keyG L c := rfl
  rw [hkd]
  clear hkt hkf hkd
  have HKS := Lib.hid hks
  generalize hky : keyG L c = ky at *
  have HKE := Lib.hid hky
  clear hky hks
  cases kb with
  | true =>
    have HR := Lib.hid (HKT.out rfl)
    clear HKT HKF
    go_wp2
    go_ret
    exact ⟨by rw [← HR.out]; rfl, HKM1.out, G', HD1.out, HGS.out⟩
  | false =>
    have HR := Lib.hid (HKF.out rfl)
    have HC := Lib.hid (HDC.out w2 HD1.out HL1.out)
    clear HKT HKF HDC
    have k0 := HK1.out.cell 0
    have k1 := HK1.out.cell 1
    have l1 := HK1.out.lt
    go_wp2_with fail
    refine HC.out.mono ?_
    rintro e w3 ⟨rfl, hkm3, G3, hD3, hG3⟩
    have hno : (L, c) ∉ G3 ++ (G' ++ G0) := fun h => by
      rcases List.mem_append.1 h with h | h
      · exact absurd (hG3 _ h) (Nat.lt_irrefl _)
      · exact HR.out h
    obtain ⟨w4, hput, hm4, hg4⟩ := hD3.mem.put HG.out.cc.ok HG.out.cc.few HG.out.gd hno (by rw [HKE.out]; exact HKS.out)
    rw [HKE.out] at hput
    have HD4 := Lib.hid (hD3.put hm4 hg4)
    have HKM4 := Lib.hid ((HKM1.out.trans hkm3).grown hg4 (fun k h => by injection h with h; exact h.symm))
    have hcd3 := hD3.cell
    have hld3 := hD3.lt
    clear hno hD3 hm4 hg4 hkm3 k0 k1 l1 hcd hld hlk
    go_wp2
    go_ret
    refine ⟨rfl, HKM4.out, (L, c) :: (G3 ++ G'), ?_, fun g hg => ?_⟩
    · rw [List.cons_append, List.append_assoc]; exact HD4.out
    · rcases List.mem_cons.1 hg with rfl | hg
      · exact hm
      · rcases List.mem_append.1 hg with hg | hg
        · exact Nat.lt_trans (hG3 _ hg) hm
        · exact HGS.out _ hg
theorem proves_all (C : List Fm) (D M m : Nat) : PrL C D M m := Nat.strongRecOn m fun m ih => impl_proves C D M m ih
end Go.Proofs.YtaigiopoogbbbaaGreat

/- Contracts of the program: the search's state; all premises at once. -/
import Derived.Test.YtaigiopoogbbbaaGreatY33
namespace Go.Proofs.YtaigiopoogbbbaaGreat
open Go.RowKit Go.Maps
set_option linter.unusedVariables false
set_option linter.unusedSimpArgs false
theorem MpB.noCell {w : World} {M : Nat} {f : ByteArray → Option Bool} {c : Nat} (h : MpB w M f c) (i : Nat) : w.cell? ⟨M, i, none⟩ = none := by
  obtain ⟨n, D, -, ⟨es, clock, hb, -⟩, -⟩ := h
  unfold World.cell?
  simp [hb]
theorem MemG.noCell {C : List Fm} {w : World} {M : Nat} {G : List (List Fm × Fm)} (h : MemG C w M G) (i : Nat) : w.cell? ⟨M, i, none⟩ = none := by
  obtain ⟨f, h1, -⟩ := h
  exact h1.noCell i
/-- worlds alike but for the map's block -/
abbrev Km (M : Nat) (w w' : World) : Prop := KpS (fun k => k = M) w w'
theorem Km.cell {M : Nat} {w w' : World} (hk : Km M w w') (hM : ∀ i, w.cell? ⟨M, i, none⟩ = none) {b i : Nat} {u : Value} (hb : b < w.heap.size) (h : w.cell? ⟨b, i, none⟩ = some u) : w'.cell? ⟨b, i, none⟩ = some u := by
  by_cases e : b = M
  · subst e; rw [hM i] at h; cases h
  · exact (KpS.cell hk (p := ⟨b, i, none⟩) hb e).trans h
theorem Sl.km {α : Type} {K : Cod α} {M : Nat} {w w' : World} {v : Value} {xs : List α} (h : Sl K w v xs) (hM : ∀ i, w.cell? ⟨M, i, none⟩ = none) (hk : Km M w w') : Sl K w' v xs := by
  obtain ⟨A, c, rfl, hc, hm, hr⟩ := h
  refine ⟨A, c, rfl, hc, hm, ?_⟩
  rcases hr with hr | ⟨b, o, rfl, hb, hcell⟩
  · exact .inl hr
  · exact .inr ⟨b, o, rfl, by have := hk.size; omega, fun k x hx => hk.cell hM hb (hcell k x hx)⟩
theorem GlR.km {M : Nat} {w w' : World} {v : Value} {gs : List (Hd × List Fm × Fm)} (h : GlR w v gs) (hM : ∀ i, w.cell? ⟨M, i, none⟩ = none) (hk : Km M w w') : GlR w' v gs := ⟨h.1.km hM hk, fun p hp => (h.2 p hp).km hM hk⟩
/-- the decider at D with its map at M, which knows the goals of G -/
structure DecS (C : List Fm) (w : World) (D M : Nat) (G : List (List Fm × Fm)) : Prop where
  mem : MemG C w M G
  lt : D < w.heap.size
  ne : D ≠ M
  cell : w.cell? ⟨D, 0, none⟩ = some (.map (some M))
theorem DecS.below {C : List Fm} {w w' : World} {D M : Nat} {G : List (List Fm × Fm)} (h : DecS C w D M G) (hb : Below w.heap.size w w') : DecS C w' D M G :=
  ⟨h.mem.grown (row := none) ⟨hb.os, hb.tape, hb.output, hb.size, fun k hk _ => hb.block k hk⟩ (by simp), Nat.lt_of_lt_of_le h.lt hb.size, h.ne, (hb.cell (p := ⟨D, 0, none⟩) h.lt).trans h.cell⟩
/-- the state of a search behind w0: what is new in the memory is smaller than m -/
def StM (C : List Fm) (D M m : Nat) (G0 : List (List Fm × Fm)) (w0 w : World) : Prop := Km M w0 w ∧ ∃ G', DecS C w D M (G' ++ G0) ∧ ∀ g ∈ G', gsw g < m
theorem StM.start {C : List Fm} {D M m : Nat} {G0 : List (List Fm × Fm)} {w : World} (h : DecS C w D M G0) : StM C D M m G0 w w := ⟨KpS.refl _ _, [], h, fun g hg => by cases hg⟩
theorem StM.below {C : List Fm} {D M m : Nat} {G0 : List (List Fm × Fm)} {w0 w w' : World} (h : StM C D M m G0 w0 w) (hb : Below w.heap.size w w') : StM C D M m G0 w0 w' := by
  obtain ⟨h1, G', h2, h3⟩ := h
  exact ⟨h1.below hb, G', h2.below hb, h3⟩
theorem StM.no {C : List Fm} {D M m : Nat} {G0 : List (List Fm × Fm)} {w0 w : World} (h : StM C D M m G0 w0 w) (i : Nat) : w.cell? ⟨M, i, none⟩ = none := by
  obtain ⟨h1, G', h2, h3⟩ := h
  exact h2.mem.noCell i
/-- a search that began later -/
theorem StM.re {C : List Fm} {D M m : Nat} {G0 : List (List Fm × Fm)} {w0 w : World} (h : StM C D M m G0 w0 w) : ∃ G1, StM C D M m G1 w w ∧ ∀ w', StM C D M m G1 w w' → StM C D M m G0 w0 w' := by
  obtain ⟨h1, G', h2, h3⟩ := h
  refine ⟨G' ++ G0, StM.start h2, fun w' ⟨k1, G'', k2, k3⟩ => ⟨h1.trans k1, G'' ++ G', by rw [List.append_assoc]; exact k2, fun g hg => ?_⟩⟩
  rcases List.mem_append.1 hg with hg | hg
  · exact k3 g hg
  · exact h3 g hg
theorem StM.km {C : List Fm} {D M m : Nat} {G1 : List (List Fm × Fm)} {w w' : World} (h : StM C D M m G1 w w') : Km M w w' := h.1
/-- goals smaller than m are answered as they are -/
def PrL (C : List Fm) (D M m : Nat) : Prop := ∀ (L : List Fm) (c : Fm) (A : Option Addr) (n k : Nat) (w0 w : World) (G0 : List (List Fm × Fm)), GC C L c → gsw (L, c) < m → StM C D M m G0 w0 w → Sl cS w (.slice A n k) (L.map txt) →
  Calls Tryz.prog 64 #[.pointer (some ⟨D, 0, none⟩), .agg #[.slice A n k, .string (txt c)]] w fun e w' => e = .returned (.bool (vlB L c)) ∧ StM C D M m G0 w0 w'
theorem impl_all_1 (C : List Fm) (D M m : Nat) (HP : PrL C D M m) (L : List Fm) (c : Fm) (A : Option Addr) (n k g : Nat) (w0 w : World) (G0 : List (List Fm × Fm)) (hg : GC C L c) (hm : gsw (L, c) < m) (hS : StM C D M m G0 w0 w) (hs : Sl cS w (.slice A n k) (L.map txt)) (hgl : g < w.heap.size) (hc : w.cell? ⟨g, 0, none⟩ = some (.pointer (some ⟨D, 0, none⟩))) :
    Calls Tryz.prog 92 #[.agg #[.slice A n k, .string (txt c)], .pointer (some ⟨g, 0, none⟩)] w fun e w' => e = .returned (.bool (!vlB L c)) ∧ StM C D M m G0 w0 w' := by
  have hb0 := below_alloc' w (.cells #[.slice A n k, .string (txt c)] 80)
  have HK := Lib.hid (Blk.new w 80 #[.slice A n k, .string (txt c)])
  have HC := Lib.hid (HP L c A n k w0 _ G0 hg hm (hS.below hb0) (hs.below hb0))
  have hc1 := (hb0.cell (p := ⟨g, 0, none⟩) hgl).trans hc
  have hgl1 := Nat.lt_of_lt_of_le hgl hb0.size
  clear hb0 HP hg hS hs hc
  generalize vlB L c = b at *
  go_enter Tryz.func92, Tryz.ntmps92
  go_upto_region 1 with fail
  generalize World.alloc w _ = w1 at *
  have k0 := HK.out.cell 0
  have k1 := HK.out.cell 1
  have l1 := HK.out.lt
  go_wp2_with fail
  refine HC.out.mono ?_
  rintro e w2 ⟨rfl, hS2⟩
  have HS := Lib.hid hS2
  clear hS2 k0 k1 hc1
  go_wp2
  go_ret
  exact ⟨rfl, HS.out⟩
set_option maxRecDepth 100000 in
theorem impl_all (C : List Fm) (D M m : Nat) (HP : PrL C D M m) (gs : List (Hd × List Fm × Fm)) (A : Option Addr) (n k : Nat) (w0 w : World) (G0 : List (List Fm × Fm)) (hS : StM C D M m G0 w0 w) (hgl : GlR w (.slice A n k) gs) (hl : gs.length ≤ 2) (hgs : ∀ g ∈ gs, GC C g.2.1 g.2.2 ∧ gsw g.2 < m) :
    Calls Tryz.prog 80 #[.pointer (some ⟨D, 0, none⟩), .slice A n k] w fun e w' => e = .returned (.bool ((gs.map (·.2)).all fun p => vlB p.1 p.2)) ∧ StM C D M m G0 w0 w' := by
  have hb0 := below_alloc' w (.cells #[.pointer (some ⟨D, 0, none⟩)] 69)
  have hk0 := Blk.new w 69 #[.pointer (some ⟨D, 0, none⟩)]
  have HC := Lib.hid (fun (p : Nat → Bool) (hp : ∀ i (hi : i < gs.length), p i = !vlB (gs[i]'hi).2.1 (gs[i]'hi).2.2) => by
    have hS1 := hS.below hb0
    obtain ⟨G1, hS2, hre⟩ := hS1.re
    have hc0 := hk0.cell 0
    have hno := fun i => hS2.no i
    refine (slices_ContainsFunc_goals (.slice A n k) gs 92 #[.pointer (some ⟨w.heap.size, 0, none⟩)] p (StM C D M m G1 _) _ (by omega) hS2 (fun _ _ => rfl) (fun W hW => (hgl.below hb0).km hno hW.km) (fun W i hi hW => ?_)).mono (fun e w' ⟨he, hw⟩ => And.intro he (hre w' hw))
    obtain ⟨h1, h2⟩ := hgs _ (List.getElem_mem hi)
    have h3 := ((hgl.below hb0).km hno hW.km).2 _ (List.getElem_mem hi)
    rw [hp i hi]
    obtain ⟨⟨⟨a, n', c'⟩, L', c1⟩, eg⟩ : ∃ x, gs[i]'hi = x := ⟨_, rfl⟩
    rw [eg] at h1 h2 h3 ⊢
    exact impl_all_1 C D M m HP L' c1 a n' c' w.heap.size _ W G1 h1 h2 hW h3 (Nat.lt_of_lt_of_le hk0.lt hW.km.size) (hW.km.cell hno hk0.lt hc0))
  have HA : Hid ((!((List.range gs.length).any fun i => !vlB (gs.getD i (⟨none, 0, 0⟩, [], .fls)).2.1 (gs.getD i (⟨none, 0, 0⟩, [], .fls)).2.2)) = (gs.map (·.2)).all fun p => vlB p.1 p.2) := Lib.hid (by
    rw [Bool.eq_iff_iff, Bool.not_eq_true', List.any_eq_false, List.all_eq_true]
    constructor
    · intro h p hp
      obtain ⟨g, hg, rfl⟩ := List.mem_map.1 hp
      obtain ⟨i, hi, rfl⟩ := List.mem_iff_getElem.1 hg
      have h1 := h i (List.mem_range.2 hi)
      rw [List.getD_eq_getElem?_getD, List.getElem?_eq_getElem hi, Option.getD_some] at h1
      simpa using h1
    · intro h i hi
      have hi' := List.mem_range.1 hi
      have h1 := h _ (List.mem_map.2 ⟨_, List.getElem_mem hi', rfl⟩)
      rw [List.getD_eq_getElem?_getD, List.getElem?_eq_getElem hi', Option.getD_some]
      simpa using h1)
  have HCC := Lib.hid (HC.out (fun i => !vlB (gs.getD i (⟨none, 0, 0⟩, [], .fls)).2.1 (gs.getD i (⟨none, 0, 0⟩, [], .fls)).2.2) (fun i hi => by rw [List.getD_eq_getElem?_getD, List.getElem?_eq_getElem hi, Option.getD_some]))
  clear HC hgs hgl hS HP hb0 hk0
  generalize ((List.range gs.length).any fun i => !vlB (gs.getD i (⟨none, 0, 0⟩, [], .fls)).2.1 (gs.getD i (⟨none, 0, 0⟩, [], .fls)).2.2) = b at *
  go_enter Tryz.func80, Tryz.ntmps80
  go_wp2_with fail
  refine HCC.out.mono ?_
  rintro e w2 ⟨rfl, hS2⟩
  have HS := Lib.hid hS2
  clear hS2
  go_wp2
  go_ret
  exact ⟨by rw [← HA.out]; rfl, HS.out⟩
end Go.Proofs.YtaigiopoogbbbaaGreat

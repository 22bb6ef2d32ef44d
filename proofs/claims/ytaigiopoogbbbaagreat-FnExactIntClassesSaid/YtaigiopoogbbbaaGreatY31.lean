/- Plain law of premises: what each rule on the left makes of a goal. No program in sight. -/
import Derived.Test.YtaigiopoogbbbaaGreatY27
import Derived.Test.YtaigiopoogbbbaaGreatY30
namespace Go.Proofs.YtaigiopoogbbbaaGreat
open Go.RowKit
set_option linter.unusedVariables false
set_option linter.unusedSimpArgs false
set_option linter.unusedSectionVars false
/-- the measure of a goal -/
def gsw (g : List Fm × Fm) : Nat := swL g.1 + sw g.2
/-- premises of a goal: goals over the closure, smaller, valid together exactly if it is -/
structure Prm (C L : List Fm) (c : Fm) (ps : List (List Fm × Fm)) : Prop where
  gd : ∀ p ∈ ps, Gd C p
  sm : ∀ p ∈ ps, gsw p < gsw (L, c)
  val : vlB L c = ps.all fun p => vlB p.1 p.2
/-- a side with formulas in the place of one -/
def nw (L : List Fm) (f : Fm) (M : List Fm) : List Fm := pu (dr L f) M
theorem dr_sub {L : List Fm} {f g : Fm} (h : g ∈ dr L f) : g ∈ L := (List.mem_filter.1 h).1
theorem nw_mem {L : List Fm} {f : Fm} {M : List Fm} (hL : ∀ g ∈ L, g.ok = true) (hM : ∀ g ∈ M, g.ok = true) (x : Fm) : x ∈ nw L f M ↔ x ∈ M ++ dr L f := by
  unfold nw
  rw [pu_mem (fun g hg => hL g ((dr_sub hg))) hM, List.mem_append]
  exact or_comm
theorem nw_val {L : List Fm} {f : Fm} {M : List Fm} {c : Fm} (hL : ∀ g ∈ L, g.ok = true) (hM : ∀ g ∈ M, g.ok = true) : Val (nw L f M) c ↔ Val (M ++ dr L f) c := Val.congr (nw_mem hL hM)
theorem nw_sw {L : List Fm} {f : Fm} {M : List Fm} (h : f ∈ L) : swL (nw L f M) + sw f ≤ swL L + swL M := by
  have h1 := pu_sw (dr L f) M
  have h2 := dr_sw h
  unfold nw
  omega
theorem nw_gd {C L : List Fm} {c f : Fm} {M : List Fm} {d : Fm} (hC : ∀ g ∈ C, g.ok = true) (h : Gd C (L, c)) (hd : d ∈ C) (hM : ∀ g ∈ M, g ∈ C) : Gd C (nw L f M, d) := by
  refine ⟨pu_srt _ _, fun g hg => ?_, hd⟩
  have hg1 : g ∈ C := by
    have := (nw_mem (fun g hg => (h.2.1 g hg).1) (fun g hg => hC g (hM g hg)) g).1 hg
    rcases List.mem_append.1 this with h1 | h1
    · exact hM g h1
    · exact (h.2.1 g ((dr_sub h1))).2
  exact ⟨hC g hg1, hg1⟩
theorem prm_one {C L M : List Fm} {c f : Fm} (hC : ∀ g ∈ C, g.ok = true) (h : Gd C (L, c)) (hf : f ∈ L) (hM : ∀ g ∈ M, g ∈ C) (hs : swL M < sw f) (hv : Val L c ↔ Val (M ++ dr L f) c) : Prm C L c [(nw L f M, c)] := by
  refine ⟨fun p hp => ?_, fun p hp => ?_, ?_⟩
  · rw [List.mem_singleton.1 hp]; exact nw_gd hC h h.2.2 hM
  · rw [List.mem_singleton.1 hp]
    have := nw_sw (M := M) hf
    simp only [gsw]
    omega
  · rw [List.all_cons, List.all_nil, Bool.and_true]
    exact vlB_eq (hv.trans (nw_val (fun g hg => (h.2.1 g hg).1) (fun g hg => hC g (hM g hg))).symm)
section
variable {C L : List Fm} {c : Fm} (hC : ∀ g ∈ C, g.ok = true) (hcl : Clsd C) (h : Gd C (L, c))
include hC hcl h
theorem mem1 {f : Fm} (hf : f ∈ L) : Mem1 L f (dr L f) := dr_mem1 (fun g hg => (h.2.1 g hg).1) hf
theorem prm_and {a b : Fm} (hf : .bin .and a b ∈ L) : Prm C L c [(nw L (.bin .and a b) [a, b], c)] := by
  obtain ⟨ha, hb⟩ := hcl.bin _ _ _ (h.2.1 _ hf).2
  exact prm_one hC h hf (fun g hg => by simp at hg; rcases hg with rfl | rfl <;> assumption) (by have := sw_and a b; simp only [swL]; omega) (Val.andL (mem1 hC hcl h hf))
theorem prm_or {a b : Fm} (hf : .bin .or a b ∈ L) : Prm C L c [(nw L (.bin .or a b) [a], c), (nw L (.bin .or a b) [b], c)] := by
  obtain ⟨ha, hb⟩ := hcl.bin _ _ _ (h.2.1 _ hf).2
  have hok := fun g hg => (h.2.1 g hg).1
  have hMa : ∀ g ∈ [a], g ∈ C := fun g hg => by rw [List.mem_singleton.1 hg]; exact ha
  have hMb : ∀ g ∈ [b], g ∈ C := fun g hg => by rw [List.mem_singleton.1 hg]; exact hb
  refine ⟨fun p hp => ?_, fun p hp => ?_, ?_⟩
  · simp only [List.mem_cons, List.not_mem_nil, or_false] at hp
    rcases hp with rfl | rfl
    · exact nw_gd hC h h.2.2 hMa
    · exact nw_gd hC h h.2.2 hMb
  · have e1 := nw_sw (M := [a]) hf
    have e2 := nw_sw (M := [b]) hf
    have e3 := sw_or1 a b
    have e4 := sw_or2 a b
    simp only [swL] at e1 e2
    simp only [List.mem_cons, List.not_mem_nil, or_false] at hp
    rcases hp with rfl | rfl
    · simp only [gsw]; omega
    · simp only [gsw]; omega
  · rw [List.all_cons, List.all_cons, List.all_nil, Bool.and_true]
    refine vlB_and ?_
    rw [nw_val hok (fun g hg => hC g (hMa g hg)), nw_val hok (fun g hg => hC g (hMb g hg))]
    exact Val.orL (mem1 hC hcl h hf)
theorem prm_fi {d : Fm} (hf : .bin .imp .fls d ∈ L) : Prm C L c [(nw L (.bin .imp .fls d) [], c)] :=
  prm_one hC h hf (fun g hg => by simp at hg) (sw_pos _) (Val.flsimp (mem1 hC hcl h hf))
theorem prm_vi {s : Nat} {d : Fm} (hf : .bin .imp (.var s) d ∈ L) (hs : .var s ∈ L) : Prm C L c [(nw L (.bin .imp (.var s) d) [d], c)] := by
  obtain ⟨ha, hb⟩ := hcl.bin _ _ _ (h.2.1 _ hf).2
  refine prm_one hC h hf (fun g hg => by rw [List.mem_singleton.1 hg]; exact hb) (by have := sw_imp (.var s) d; have := sw_pos (.var s); simp only [swL]; omega) (Val.mp (mem1 hC hcl h hf) ?_)
  rw [dr_mem (fun g hg => (h.2.1 g hg).1) (h.2.1 _ hf).1]
  exact ⟨hs, fun e => by cases e⟩
theorem prm_ai {a b d : Fm} (hf : .bin .imp (.bin .and a b) d ∈ L) : Prm C L c [(nw L (.bin .imp (.bin .and a b) d) [.bin .imp a (.bin .imp b d)], c)] :=
  prm_one hC h hf (fun g hg => by rw [List.mem_singleton.1 hg]; exact hcl.ai _ _ _ (h.2.1 _ hf).2) (by have := sw_andimp a b d; simp only [swL]; omega) (Val.andimp (mem1 hC hcl h hf))
theorem prm_oi {a b d : Fm} (hf : .bin .imp (.bin .or a b) d ∈ L) : Prm C L c [(nw L (.bin .imp (.bin .or a b) d) [.bin .imp a d, .bin .imp b d], c)] := by
  obtain ⟨h1, h2⟩ := hcl.oi _ _ _ (h.2.1 _ hf).2
  exact prm_one hC h hf (fun g hg => by simp at hg; rcases hg with rfl | rfl <;> assumption) (by have := sw_orimp a b d; simp only [swL]; omega) (Val.orimp (mem1 hC hcl h hf))
/-- the premises of a choice -/
theorem cho_gd1 {x y b : Fm} (hf : .bin .imp (.bin .imp x y) b ∈ L) : Gd C (nw L (.bin .imp (.bin .imp x y) b) [.bin .imp y b], .bin .imp x y) ∧ gsw (nw L (.bin .imp (.bin .imp x y) b) [.bin .imp y b], .bin .imp x y) < gsw (L, c) := by
  have h1 := hcl.ii _ _ _ (h.2.1 _ hf).2
  obtain ⟨ha, hb⟩ := hcl.bin _ _ _ (h.2.1 _ hf).2
  refine ⟨nw_gd hC h ha fun g hg => by rw [List.mem_singleton.1 hg]; exact h1, ?_⟩
  have e1 := nw_sw (M := [.bin .imp y b]) hf
  have e2 := sw_ii1 x y b
  simp only [swL] at e1
  simp only [gsw]
  have := sw_pos c
  omega
theorem cho_gd2 {x y b : Fm} (hf : .bin .imp (.bin .imp x y) b ∈ L) : Gd C (nw L (.bin .imp (.bin .imp x y) b) [b], c) ∧ gsw (nw L (.bin .imp (.bin .imp x y) b) [b], c) < gsw (L, c) := by
  obtain ⟨ha, hb⟩ := hcl.bin _ _ _ (h.2.1 _ hf).2
  refine ⟨nw_gd hC h h.2.2 fun g hg => by rw [List.mem_singleton.1 hg]; exact hb, ?_⟩
  have e1 := nw_sw (M := [b]) hf
  have e2 := sw_imp (.bin .imp x y) b
  simp only [swL] at e1
  simp only [gsw]
  omega
/-- both premises of the choice at a formula of the left side hold -/
noncomputable def chB (L : List Fm) (c : Fm) : Fm → Bool
  | .bin .imp (.bin .imp x y) b => vlB (nw L (.bin .imp (.bin .imp x y) b) [.bin .imp y b]) (.bin .imp x y) && vlB (nw L (.bin .imp (.bin .imp x y) b) [b]) c
  | _ => false
theorem chB_val {f : Fm} (hf : f ∈ L) (hb : chB L c f = true) : Val L c := by
  unfold chB at hb
  split at hb
  · rename_i x y b
    rw [Bool.and_eq_true, vlB_iff, vlB_iff] at hb
    obtain ⟨ha, hbC⟩ := hcl.bin _ _ _ (h.2.1 _ hf).2
    have hok := fun g hg => (h.2.1 g hg).1
    have h1 := (nw_val (c := .bin .imp x y) (f := .bin .imp (.bin .imp x y) b) (M := [.bin .imp y b]) hok (fun g hg => by rw [List.mem_singleton.1 hg]; exact hC _ (hcl.ii _ _ _ (h.2.1 _ hf).2))).1 hb.1
    have h2 := (nw_val (c := c) (f := .bin .imp (.bin .imp x y) b) (M := [b]) hok (fun g hg => by rw [List.mem_singleton.1 hg]; exact hC _ hbC)).1 hb.2
    exact Val.ii (mem1 hC hcl h hf) h1 h2
  · cases hb
/-- what is left when nothing can be taken apart without a choice -/
theorem chB_irr (hG : Irr L) (hc : (∃ s, c = .var s ∧ .var s ∉ L) ∨ c = .fls ∨ ∃ a b, c = .bin .or a b) (hno : ∀ f ∈ L, chB L c f = false) (hor : ∀ a b, c = .bin .or a b → vlB L a = false ∧ vlB L b = false) : vlB L c = false := by
  have hF : ∀ {G : List Fm} {d : Fm}, vlB G d = false → ¬ Val G d := fun h hv => by rw [vlB_true hv] at h; cases h
  have hok := fun g hg => (h.2.1 g hg).1
  refine Bool.eq_false_iff.2 fun hv => irr_val hG hc (fun x y b hf => ?_) (fun a b e => ⟨hF (hor a b e).1, hF (hor a b e).2⟩) (vlB_iff.1 hv)
  refine ⟨dr L (.bin .imp (.bin .imp x y) b), mem1 hC hcl h hf, fun ⟨h1, h2⟩ => ?_⟩
  have h3 := hno _ hf
  obtain ⟨ha, hbC⟩ := hcl.bin _ _ _ (h.2.1 _ hf).2
  rw [chB, vlB_true ((nw_val hok (fun g hg => by rw [List.mem_singleton.1 hg]; exact hC _ (hcl.ii _ _ _ (h.2.1 _ hf).2))).2 h1), vlB_true ((nw_val hok (fun g hg => by rw [List.mem_singleton.1 hg]; exact hC _ hbC)).2 h2)] at h3
  cases h3
/-- on the right -/
theorem prm_andR {a b : Fm} (e : c = .bin .and a b) : Prm C L c [(L, a), (L, b)] := by
  subst e
  obtain ⟨ha, hb⟩ := hcl.bin _ _ _ h.2.2
  have e1 := sw_and a b
  have := sw_pos a
  have := sw_pos b
  refine ⟨fun p hp => ?_, fun p hp => ?_, ?_⟩
  · simp only [List.mem_cons, List.not_mem_nil, or_false] at hp
    rcases hp with rfl | rfl
    · exact ⟨h.1, h.2.1, ha⟩
    · exact ⟨h.1, h.2.1, hb⟩
  · simp only [List.mem_cons, List.not_mem_nil, or_false] at hp
    rcases hp with rfl | rfl
    · simp only [gsw]; omega
    · simp only [gsw]; omega
  · rw [List.all_cons, List.all_cons, List.all_nil, Bool.and_true]
    exact vlB_and Val.andR
theorem prm_impR {a b : Fm} (e : c = .bin .imp a b) : Prm C L c [(pu L [a], b)] := by
  subst e
  obtain ⟨ha, hb⟩ := hcl.bin _ _ _ h.2.2
  have hok := fun g hg => (h.2.1 g hg).1
  have hM : ∀ g ∈ [a], g.ok = true := fun g hg => by rw [List.mem_singleton.1 hg]; exact hC _ ha
  have hm : ∀ x, x ∈ pu L [a] ↔ x ∈ [a] ++ L := fun x => by rw [pu_mem hok hM, List.mem_append]; exact or_comm
  refine ⟨fun p hp => ?_, fun p hp => ?_, ?_⟩
  · rw [List.mem_singleton.1 hp]
    refine ⟨pu_srt _ _, fun g hg => ?_, hb⟩
    rcases List.mem_append.1 ((hm g).1 hg) with h1 | h1
    · rw [List.mem_singleton.1 h1]; exact ⟨hC _ ha, ha⟩
    · exact h.2.1 g h1
  · rw [List.mem_singleton.1 hp]
    have e1 := sw_imp a b
    have e2 := pu_sw L [a]
    simp only [swL] at e2
    simp only [gsw]
    omega
  · rw [List.all_cons, List.all_nil, Bool.and_true]
    exact vlB_eq (Val.impR.trans (Val.congr hm).symm)
end
/-- nothing of the left side is taken apart -/
def irr1 (L : List Fm) (f : Fm) : Prop := (∃ s, f = .var s) ∨ (∃ s b, f = .bin .imp (.var s) b ∧ .var s ∉ L) ∨ ∃ x y b, f = .bin .imp (.bin .imp x y) b
end Go.Proofs.YtaigiopoogbbbaaGreat

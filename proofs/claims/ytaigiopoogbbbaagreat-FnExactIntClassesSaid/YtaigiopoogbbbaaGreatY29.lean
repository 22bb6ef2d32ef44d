/- Joined of several texts. -/
import Derived.Test.YtaigiopoogbbbaaGreatY27
import Derived.Test.YtaigiopoogbbbaaGreatY28
namespace Go.Proofs.YtaigiopoogbbbaaGreat
/- The memory of the program's search: its invariant. -/
open Go.RowKit
set_option linter.unusedVariables false
set_option linter.unusedSimpArgs false
/-- the map at M knows the goals of G, and their answers -/
def MemG (C : List Fm) (w : World) (M : Nat) (G : List (List Fm × Fm)) : Prop :=
  ∃ f, MpB w M f G.length ∧ G.Nodup ∧ (∀ g ∈ G, Gd C g) ∧ (∀ g ∈ G, f (keyG g.1 g.2) = some (vlB g.1 g.2)) ∧ ∀ a, f a ≠ none → ∃ g ∈ G, a = keyG g.1 g.2
theorem MemG.made (C : List Fm) (w : World) : MemG C (w.alloc (.map #[] 0)) w.heap.size [] :=
  ⟨_, MpB.made w, List.nodup_nil, fun g h => by simp at h, fun g h => by simp at h, fun a h => absurd rfl h⟩
theorem MemG.lt {C : List Fm} {w : World} {M : Nat} {G : List (List Fm × Fm)} (h : MemG C w M G) : M < w.heap.size := by
  obtain ⟨f, h1, -⟩ := h
  exact h1.lt
theorem MemG.grown {C : List Fm} {w w' : World} {M : Nat} {G : List (List Fm × Fm)} {row : Option Nat} (h : MemG C w M G) (hg : w.grownBy w' row) (hne : some M ≠ row) : MemG C w' M G := by
  obtain ⟨f, h1, h2⟩ := h
  exact ⟨f, h1.grown hg hne, h2⟩
/-- what a lookup says -/
theorem MemG.look {C : List Fm} {w : World} {M : Nat} {G : List (List Fm × Fm)} (h : MemG C w M G) {L : List Fm} {c : Fm} (hC : ∀ f ∈ C, f.ok = true) (hg : Gd C (L, c)) (hs : (keyG L c).size ≤ 9000000000) :
    ∃ x b : Bool, (Instr.lookup 74 (.map (some M)) (.string (keyG L c)) true).run Tryz.prog w = .ok (.tuple #[.bool x, .bool b]) w ∧ (b = true → x = vlB L c) ∧ (b = false → (L, c) ∉ G) := by
  obtain ⟨f, h1, h2, h3, h4, h5⟩ := h
  obtain ⟨x, hx, hy⟩ := h1.ok hs
  refine ⟨x, _, hx, fun hb => ?_, fun hb hm => ?_⟩
  · obtain ⟨g, hgG, e⟩ := h5 (keyG L c) (fun e => by rw [e] at hb; cases hb)
    have hk := h3 g hgG
    obtain ⟨e1, e2⟩ := keyG_inj (fun f hf => (hg.2.1 f hf).1) (fun f hf => (hk.2.1 f hf).1) (hC _ hg.2.2) (hC _ hk.2.2) e
    have h6 := h4 g hgG
    rw [← e] at h6
    rw [hy _ h6]
    simp only at e1 e2
    rw [e1, e2]
  · have h6 := h4 _ hm
    simp only at h6
    rw [h6] at hb
    cases hb
/-- what an insertion does -/
theorem MemG.put {C : List Fm} {w : World} {M : Nat} {G : List (List Fm × Fm)} (h : MemG C w M G) {L : List Fm} {c : Fm} (hC : ∀ f ∈ C, f.ok = true) (hC40 : C.length ≤ 40) (hg : Gd C (L, c)) (hn : (L, c) ∉ G) (hs : (keyG L c).size ≤ 9000000000) :
    ∃ w', (Instr.mapUpdate 74 (.map (some M)) (.string (keyG L c)) (.bool (vlB L c))).run Tryz.prog w = .ok () w' ∧ MemG C w' M ((L, c) :: G) ∧ w.grownBy w' (some M) := by
  obtain ⟨f, h1, h2, h3, h4, h5⟩ := h
  have hfew := goals_few hC40 h2 h3
  obtain ⟨w', hr, hm, hgr⟩ := h1.put (by omega) hs (vlB L c)
  have hok : ∀ g ∈ G, keyG g.1 g.2 ≠ keyG L c := fun g hgG e => by
    have hk := h3 g hgG
    obtain ⟨e1, e2⟩ := keyG_inj (fun f hf => (hk.2.1 f hf).1) (fun f hf => (hg.2.1 f hf).1) (hC _ hk.2.2) (hC _ hg.2.2) e
    apply hn
    simp only at e1 e2
    rw [← e1, ← e2]
    exact hgG
  refine ⟨w', hr, ⟨_, hm, List.nodup_cons.2 ⟨hn, h2⟩, fun g hgG => ?_, fun g hgG => ?_, fun a ha => ?_⟩, hgr⟩
  · rcases List.mem_cons.1 hgG with rfl | hgG
    · exact hg
    · exact h3 g hgG
  · rcases List.mem_cons.1 hgG with rfl | hgG
    · simp
    · rw [if_neg (hok g hgG)]; exact h4 g hgG
  · by_cases e : a = keyG L c
    · exact ⟨(L, c), List.mem_cons_self .., e⟩
    · rw [if_neg e] at ha
      obtain ⟨g, hgG, e⟩ := h5 a ha
      exact ⟨g, List.mem_cons_of_mem _ hgG, e⟩
/- Lists of goals; the library's search in such a list, and in a list of texts, with a predicate that has a memory. -/
open Go.RowKit
set_option linter.unusedVariables false
set_option linter.unusedSimpArgs false
def cG : Cod (Hd × ByteArray) := ⟨2, fun x => [x.1.val, .string x.2], fun _ => rfl, by decide, fun _ u hu => by
  simp only [List.mem_cons, List.not_mem_nil, or_false] at hu
  rcases hu with rfl | rfl <;> rfl⟩
/-- a list of goals, each side behind its header -/
def GlR (w : World) (v : Value) (gs : List (Hd × List Fm × Fm)) : Prop := Sl cG w v (gs.map fun g => (g.1, txt g.2.2)) ∧ ∀ g ∈ gs, Sl cS w g.1.val (g.2.1.map txt)
theorem GlR.below {w w' : World} {v : Value} {gs : List (Hd × List Fm × Fm)} (h : GlR w v gs) (hb : Below w.heap.size w w') : GlR w' v gs := ⟨h.1.below hb, fun p hp => (h.2 p hp).below hb⟩
theorem GlR.opn {w : World} {v : Value} {gs : List (Hd × List Fm × Fm)} (h : GlR w v gs) : ∃ A c, v = .slice A gs.length c := by
  obtain ⟨A, c, e⟩ := h.1.opn
  rw [List.length_map] at e
  exact ⟨A, c, e⟩
theorem GlR.at_ {w : World} {A : Option Addr} {n c : Nat} {gs : List (Hd × List Fm × Fm)} (h : GlR w (.slice A n c) gs) {k : Nat} (hk : k < gs.length) :
    ∃ b o, A = some ⟨b, o, none⟩ ∧ b < w.heap.size ∧ w.cell? ⟨b, o + k * 2, none⟩ = some (gs[k]'hk).1.val ∧ w.cell? ⟨b, o + k * 2 + 1, none⟩ = some (.string (txt (gs[k]'hk).2.2)) ∧ Sl cS w (gs[k]'hk).1.val ((gs[k]'hk).2.1.map txt) := by
  have hk' : k < (gs.map fun g => (g.1, txt g.2.2)).length := by rw [List.length_map]; exact hk
  obtain ⟨b, o, hA, hb, hc⟩ := h.1.cell hk'
  have e : (gs.map fun g => (g.1, txt g.2.2))[k]'hk' = ((gs[k]'hk).1, txt (gs[k]'hk).2.2) := by rw [List.getElem_map]
  rw [e] at hc
  exact ⟨b, o, hA, hb, hc 0 _ rfl, hc 1 _ rfl, h.2 _ (List.getElem_mem hk)⟩
set_option maxRecDepth 100000 in
theorem slices_IndexFunc_goals (v : Value) (gs : List (Hd × List Fm × Fm)) (gp : FuncId) (lb : Array Value) (p : Nat → Bool) (J : World → Prop) (w : World) (hl : gs.length ≤ 1048576) (hJ : J w)
    (hk : ∀ args w, (callFunc gp args).run Tryz.prog w = .ok (.enter gp args) w) (hkeep : ∀ W, J W → GlR W v gs)
    (hp : ∀ W i (hi : i < gs.length), J W → Calls Tryz.prog gp (#[.agg #[(gs[i]'hi).1.val, .string (txt (gs[i]'hi).2.2)]] ++ lb) W fun e w' => e = .returned (.bool (p i)) ∧ J w') :
    Calls Tryz.prog 113 #[v, .func (.func gp) #[] lb] w fun e w' => ∃ r : Int, e = .returned (.int .i64 r) ∧ decide (0 ≤ r) = (List.range gs.length).any p ∧ J w' := by
  obtain ⟨A, c, rfl⟩ := (hkeep w hJ).opn
  have HJ := Lib.hid hJ
  have HKE := Lib.hid hkeep
  have HP := Lib.hid hp
  clear hJ hkeep hp
  go_enter Tryz.func113, Tryz.ntmps113
  go_wp2
  go_loopw [8] (fun i wr => ∃ j : Nat, j ≤ gs.length ∧ i = .int .i64 j ∧ J wr ∧ ∀ k, k < j → p k = false) (fun i _ => gs.length - (intOf i).toNat)
  case atStart => exact ⟨0, Nat.zero_le _, rfl, HJ.out, fun k h => absurd h (Nat.not_lt_zero _)⟩
  case round =>
    clear HJ
    obtain ⟨j, hj, rfl, hJ, hh⟩ := hrel
    have Hh := Lib.hid hh
    have HJ := Lib.hid hJ
    clear hh
    by_cases hlt : j < gs.length
    · obtain ⟨b, o, rfl, hbl, hc0, hc1, hs⟩ := (HKE.out wr hJ).at_ hlt
      have HC := Lib.hid (HP.out wr j hlt hJ)
      obtain ⟨⟨a, n, cc⟩, hgv⟩ : ∃ h, (gs[j]'hlt).1 = h := ⟨_, rfl⟩
      rw [hgv] at HC hc0
      generalize txt (gs[j]'hlt).2.2 = s at *
      change wr.cell? _ = some (.slice a n cc) at hc0
      clear hs hJ hgv
      go_wp2_with fail
      refine HC.out.mono ?_
      rintro e w1 ⟨rfl, hj1⟩
      have HJ1 := Lib.hid hj1
      clear hj1 hc0 hc1 hbl HC
      have HPT : Hid (p j = true → (List.range gs.length).any p = true) := Lib.hid fun h1 => List.any_eq_true.2 ⟨j, List.mem_range.2 hlt, h1⟩
      have HPF : Hid (p j = false → ∀ k, k < j + 1 → p k = false) := Lib.hid fun h1 k hk => by
        by_cases e : k = j
        · rw [e]; exact h1
        · exact Hh.out k (by omega)
      cases hpj : p j
      · have HN := Lib.hid (HPF.out hpj)
        clear HPT HPF hpj
        go_wp2
        go_roundw
        case rel => exact ⟨j + 1, by omega, by go_num, HJ1.out, HN.out⟩
        case measure => simp [intOf]; omega
      · have HN := Lib.hid (HPT.out hpj)
        clear HPT HPF hpj
        go_wp2
        go_ret
        exact ⟨j, rfl, by rw [HN.out]; simp, HJ1.out⟩
    · obtain rfl : j = gs.length := by omega
      have HA : Hid ((List.range gs.length).any p = false) := Lib.hid (by rw [List.any_eq_false]; intro k hk; rw [Hh.out k (List.mem_range.1 hk)]; decide)
      clear hJ
      go_wp2
      go_ret
      exact ⟨-1, rfl, by rw [HA.out]; rfl, HJ.out⟩
theorem slices_ContainsFunc_goals (v : Value) (gs : List (Hd × List Fm × Fm)) (gp : FuncId) (lb : Array Value) (p : Nat → Bool) (J : World → Prop) (w : World) (hl : gs.length ≤ 1048576) (hJ : J w)
    (hk : ∀ args w, (callFunc gp args).run Tryz.prog w = .ok (.enter gp args) w) (hkeep : ∀ W, J W → GlR W v gs)
    (hp : ∀ W i (hi : i < gs.length), J W → Calls Tryz.prog gp (#[.agg #[(gs[i]'hi).1.val, .string (txt (gs[i]'hi).2.2)]] ++ lb) W fun e w' => e = .returned (.bool (p i)) ∧ J w') :
    Calls Tryz.prog 91 #[v, .func (.func gp) #[] lb] w fun e w' => e = .returned (.bool ((List.range gs.length).any p)) ∧ J w' := by
  have HC := Lib.hid (slices_IndexFunc_goals v gs gp lb p J w hl hJ hk hkeep hp)
  clear hJ hkeep hp
  go_enter Tryz.func91, Tryz.ntmps91
  go_wp2_with fail
  refine HC.out.mono ?_
  rintro e w1 ⟨r, rfl, hr, hj⟩
  have HR := Lib.hid hr
  have HJ := Lib.hid hj
  clear hr hj
  go_wp2
  go_ret
  exact ⟨by rw [← HR.out]; rfl, HJ.out⟩
set_option maxRecDepth 100000 in
theorem slices_IndexFunc_strs (v : Value) (gs : List ByteArray) (gp : FuncId) (lb : Array Value) (p : Nat → Bool) (J : World → Prop) (w : World) (hl : gs.length ≤ 1048576) (hJ : J w)
    (hk : ∀ args w, (callFunc gp args).run Tryz.prog w = .ok (.enter gp args) w) (hkeep : ∀ W, J W → Sl cS W v gs)
    (hp : ∀ W i (hi : i < gs.length), J W → Calls Tryz.prog gp (#[.string (gs[i]'hi)] ++ lb) W fun e w' => e = .returned (.bool (p i)) ∧ J w') :
    Calls Tryz.prog 115 #[v, .func (.func gp) #[] lb] w fun e w' => ∃ r : Int, e = .returned (.int .i64 r) ∧ decide (0 ≤ r) = (List.range gs.length).any p ∧ J w' := by
  obtain ⟨A, c, rfl⟩ := (hkeep w hJ).opn
  have HJ := Lib.hid hJ
  have HKE := Lib.hid hkeep
  have HP := Lib.hid hp
  clear hJ hkeep hp
  go_enter Tryz.func115, Tryz.ntmps115
  go_wp2
  go_loopw [8] (fun i wr => ∃ j : Nat, j ≤ gs.length ∧ i = .int .i64 j ∧ J wr ∧ ∀ k, k < j → p k = false) (fun i _ => gs.length - (intOf i).toNat)
  case atStart => exact ⟨0, Nat.zero_le _, rfl, HJ.out, fun k h => absurd h (Nat.not_lt_zero _)⟩
  case round =>
    clear HJ
    obtain ⟨j, hj, rfl, hJ, hh⟩ := hrel
    have Hh := Lib.hid hh
    have HJ := Lib.hid hJ
    clear hh
    by_cases hlt : j < gs.length
    · obtain ⟨b, o, rfl, hbl, hc0⟩ := (HKE.out wr hJ).atS hlt
      have HC := Lib.hid (HP.out wr j hlt hJ)
      generalize (gs[j]'hlt) = s at *
      clear hJ
      go_wp2_with fail
      refine HC.out.mono ?_
      rintro e w1 ⟨rfl, hj1⟩
      have HJ1 := Lib.hid hj1
      clear hj1 hc0 hbl HC
      have HPT : Hid (p j = true → (List.range gs.length).any p = true) := Lib.hid fun h1 => List.any_eq_true.2 ⟨j, List.mem_range.2 hlt, h1⟩
      have HPF : Hid (p j = false → ∀ k, k < j + 1 → p k = false) := Lib.hid fun h1 k hk => by
        by_cases e : k = j
        · rw [e]; exact h1
        · exact Hh.out k (by omega)
      cases hpj : p j
      · have HN := Lib.hid (HPF.out hpj)
        clear HPT HPF hpj
        go_wp2
        go_roundw
        case rel => exact ⟨j + 1, by omega, by go_num, HJ1.out, HN.out⟩
        case measure => simp [intOf]; omega
      · have HN := Lib.hid (HPT.out hpj)
        clear HPT HPF hpj
        go_wp2
        go_ret
        exact ⟨j, rfl, by rw [HN.out]; simp, HJ1.out⟩
    · obtain rfl : j = gs.length := by omega
      have HA : Hid ((List.range gs.length).any p = false) := Lib.hid (by rw [List.any_eq_false]; intro k hk; rw [Hh.out k (List.mem_range.1 hk)]; decide)
      clear hJ
      go_wp2
      go_ret
      exact ⟨-1, rfl, by rw [HA.out]; rfl, HJ.out⟩
theorem slices_ContainsFunc_strs (v : Value) (gs : List ByteArray) (gp : FuncId) (lb : Array Value) (p : Nat → Bool) (J : World → Prop) (w : World) (hl : gs.length ≤ 1048576) (hJ : J w)
    (hk : ∀ args w, (callFunc gp args).run Tryz.prog w = .ok (.enter gp args) w) (hkeep : ∀ W, J W → Sl cS W v gs)
    (hp : ∀ W i (hi : i < gs.length), J W → Calls Tryz.prog gp (#[.string (gs[i]'hi)] ++ lb) W fun e w' => e = .returned (.bool (p i)) ∧ J w') :
    Calls Tryz.prog 95 #[v, .func (.func gp) #[] lb] w fun e w' => e = .returned (.bool ((List.range gs.length).any p)) ∧ J w' := by
  have HC := Lib.hid (slices_IndexFunc_strs v gs gp lb p J w hl hJ hk hkeep hp)
  clear hJ hkeep hp
  go_enter Tryz.func95, Tryz.ntmps95
  go_wp2_with fail
  refine HC.out.mono ?_
  rintro e w1 ⟨r, rfl, hr, hj⟩
  have HR := Lib.hid hr
  have HJ := Lib.hid hj
  clear hr hj
  go_wp2
  go_ret
  exact ⟨by rw [← HR.out]; rfl, HJ.out⟩
end Go.Proofs.YtaigiopoogbbbaaGreat

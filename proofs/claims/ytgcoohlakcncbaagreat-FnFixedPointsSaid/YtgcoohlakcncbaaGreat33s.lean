/- Contracts of chapter 33, of the program: outerParts and replaceOuter. -/
import Derived.Test.YtgcoohlakcncbaaGreat33q
import Derived.Test.YtgcoohlakcncbaaGreatSch
namespace Go.Proofs.YtgcoohlakcncbaaGreat
open Go.RowKit
set_option linter.unusedVariables false
set_option linter.unusedSimpArgs false
theorem occs_count (s : Nat) (f : Fm) : (occs s f).length ≤ (enc f).length := by
  induction f with
  | var t => exact Nat.zero_le _
  | fls => exact Nat.zero_le _
  | bin k a b iha ihb => simp only [occs, enc, List.length_append, List.length_cons]; omega
  | un k a ih =>
    have := enc_pos a
    rw [occs]
    split
    · simp only [List.length_cons, List.length_nil, enc]; omega
    · exact Nat.zero_le _
/-- a list of formulas, each once, out of another list -/
def Sel (R q : List Fm) : Prop := (q.map enc).Nodup ∧ ∀ x ∈ q, x ∈ R
theorem Sel.ins {R q : List Fm} (h : Sel R q) {g : Fm} (hg : g ∈ R) : Sel R (Go.Proofs.YtgcoohlakcncbaaGreat.ins q g) :=
  ⟨ins_nodup h.1 g, fun x hx => (ins_mem hx).elim (h.2 x) fun e => e ▸ hg⟩
theorem Sel.le {R q : List Fm} (h : Sel R q) : q.length ≤ R.length := by
  have := nodup_le (q.map enc) (R.map enc) h.1 fun x hx => by
    obtain ⟨g, hg, rfl⟩ := List.mem_map.1 hx
    exact List.mem_map.2 ⟨g, h.2 g hg, rfl⟩
  simpa using this
theorem en_outerParts_1 : ∀ (args : Array Value) (w : World), (callFunc 157 args).run Tryz.prog w = .ok (.enter 157 args) w := enters Tryz.func157 (by kernel_rfl) (by kernel_rfl)
theorem en_outerParts_1_1 : ∀ (args : Array Value) (w : World), (callFunc 158 args).run Tryz.prog w = .ok (.enter 158 args) w := enters Tryz.func158 (by kernel_rfl) (by kernel_rfl)
theorem impl_outerParts_1_1 (G : Nat) (v u : Value) (A : Option Addr) (n c : Nat) (xs ys : List Nd) (w : World) (hG : w.cell? ⟨G, 0, none⟩ = some v) (hv : v = .slice A n c) (hx : Sl cN w v xs) (hy : Sl cN w u ys) (hl : xs.length ≤ 1073741824) (hl2 : ys.length ≤ 1073741824) :
    Calls Tryz.prog 158 #[u, .pointer (some ⟨G, 0, none⟩)] w fun e w' => e = .returned (.bool (decide (ys = xs))) ∧ Below w.heap.size w w' := by
  subst hv
  have HE : Hid (decide (xs = ys) = decide (ys = xs)) := Lib.hid (by rw [decide_eq_decide]; exact eq_comm)
  have HS := Lib.hid (impl_same _ u xs ys w hx hy hl hl2)
  rw [HE.out] at HS
  clear hx hy
  go_enter Tryz.func158, Tryz.ntmps158
  go_wp2_with fail
  refine HS.out.mono ?_
  rintro e w1 ⟨rfl, hb⟩
  go_wp2
  go_ret
  exact ⟨rfl, hb⟩
/-- what outerParts has when its closure is called: the captured list -/
def OutI (w0 : World) (C : Nat) (R : List Fm) (q : List Fm) (T : Nat → Prop) (W : World) : Prop :=
  ∃ (u : Value) (hs : List Hd), Blk W C 46 #[u] ∧ Ow cH 26 (C + 1) W u hs ∧ Hs w0 hs q ∧ Sel R q ∧ (∀ k, T k ↔ (k = C ∨ u.ownBlock = some k))
set_option maxHeartbeats 1000000 in
set_option maxRecDepth 100000 in
theorem impl_outerParts_1 (w0 : World) (C : Nat) (R q : List Fm) (T : Nat → Prop) (W : World) (g : Fm) (v : Value) (hI : OutI w0 C R q T W) (hb0 : Below w0.heap.size w0 W) (hC : w0.heap.size ≤ C) (hR : R.length ≤ 100) (hg : g ∈ R) (hl : (enc g).length ≤ 100) (hlR : ∀ x ∈ R, (enc x).length ≤ 100) (h0 : Sl cN w0 v (enc g)) :
    Calls Tryz.prog 157 (#[v] ++ #[.pointer (some ⟨C, 0, none⟩)]) W fun e W' => ∃ T', e = .returned v ∧ OutI w0 C R (ins q g) T' W' ∧ Fr C T W W' ∧ Tgr T W T' := by
  obtain ⟨u, hs, hC0, hO, hH, hSo, hT⟩ := hI
  rw [show (#[v] ++ #[Value.pointer (some ⟨C, 0, none⟩)] : Array Value) = #[v, .pointer (some ⟨C, 0, none⟩)] from rfl]
  obtain ⟨A, c, rfl⟩ := h0.opn
  obtain ⟨A2, c2, rfl⟩ := hO.opn
  have hqR := hSo.le
  have hba := below_alloc' W (.cells #[.slice A (enc g).length c] 26)
  have hk := Blk.new W 26 #[.slice A (enc g).length c]
  have hCa := hC0.below hba hC0.lt
  have hOa := hO.below hba
  have hb0a := hb0.trans (hba.mono hb0.size)
  have hCon := fun (W1 : World) (hb : Below (W.alloc (.cells #[.slice A (enc g).length c] 26)).heap.size (W.alloc (.cells #[.slice A (enc g).length c] 26)) W1) => slices_ContainsFunc_nodes' (.slice A2 hs.length c2) (q.map enc) 158 #[.pointer (some ⟨W.heap.size, 0, none⟩)] (fun i => decide (enc (q.getD i .fls) = enc g)) W1
    ((hH.below (hb0a.trans (hb.mono hb0a.size))).sl2 (hOa.below hb).sl) (by rw [List.length_map]; omega) en_outerParts_1_1 (fun W2 hW2 u2 i hi hu2 => by
      have hi' : i < q.length := by simpa using hi
      rw [List.getElem_map] at hu2
      have hgi : q.getD i .fls = q[i] := by rw [List.getD_eq_getElem?_getD, List.getElem?_eq_getElem hi']; rfl
      rw [show (#[u2] ++ #[Value.pointer (some ⟨W.heap.size, 0, none⟩)] : Array Value) = #[u2, .pointer (some ⟨W.heap.size, 0, none⟩)] from rfl, hgi]
      have hbk := (hk.below hb hk.lt).below hW2 (hk.below hb hk.lt).lt
      refine impl_outerParts_1_1 W.heap.size _ u2 A (enc g).length c (enc g) (enc q[i]) W2 (hbk.cell 0) rfl (h0.below ((hb0a.trans (hb.mono hb0a.size)).trans (hW2.mono (hb0a.trans (hb.mono hb0a.size)).size))) hu2 (by omega) ?_
      have := hlR _ (hSo.2 _ (List.getElem_mem hi'))
      omega)
  have HIN : Hid ((List.range (q.map enc).length).any (fun i => decide (enc (q.getD i .fls) = enc g)) = isin q g) := Lib.hid (by rw [List.length_map]; exact isin_range q g)
  rw [HIN.out] at hCon
  have HCon := Lib.hid hCon
  have HBA := Lib.hid hba
  have HK := Lib.hid hk
  have HCa := Lib.hid hCa
  have HOa := Lib.hid hOa
  have HC := Lib.hid hC0
  have HO := Lib.hid hO
  have HH := Lib.hid hH
  have HSo := Lib.hid hSo
  have HT := Lib.hid hT
  have HX := Lib.hid h0
  have HG := Lib.hid hg
  have HSZ := Lib.hid (size_alloc' W (.cells #[.slice A (enc g).length c] 26))
  have HINS : Hid (ins q g = if isin q g then q else q ++ [g]) := Lib.hid rfl
  have HLT : Hid (∀ k, T k → k < W.heap.size) := Lib.hid fun k hk => by
    rcases (hT k).1 hk with rfl | h
    · exact hC0.lt
    · exact (hO.block k h).2
  have HNC : Hid (∀ k, (Value.slice A2 hs.length c2).ownBlock = some k → ¬ k = C) := Lib.hid fun k h e => by have := (hO.block k h).1; omega
  have HHL : Hid (hs.length ≤ 100) := Lib.hid (by rw [hH.1]; omega)
  clear hba hk hCa hOa hCon hC0 hO hH hSo hT h0 hg hb0a hb0
  generalize hLL : (enc g).length = L at *
  have HLL := Lib.hid hLL
  clear hLL
  go_enter Tryz.func157, Tryz.ntmps157
  go_upto_region 1 with fail
  generalize World.alloc W _ = W1 at *
  have k0 := HCa.out.cell
  have k1 := HK.out.cell
  have l0 := HCa.out.lt
  have l1 := HK.out.lt
  have f0 := HCa.out.frozen
  go_wp2_with fail
  refine (HCon.out W1 (Below.refl _ _)).mono ?_
  rintro e w2 ⟨rfl, hb⟩
  have hC2 := HCa.out.below hb HCa.out.lt
  have hK2 := HK.out.below hb HK.out.lt
  have hO2 := HOa.out.below hb
  have HC2 := Lib.hid hC2
  have HO2 := Lib.hid hO2
  have HK2 := Lib.hid hK2
  have HB2 := Lib.hid (bthen HBA.out hb)
  clear k0 k1 l0 l1 f0 hb HCon HCa HK HOa
  have k0 := hC2.cell
  have k1 := hK2.cell
  have l0 := hC2.lt
  have l1 := hK2.lt
  have f0 := hC2.frozen
  clear hC2 hK2 hO2
  cases hin : isin q g with
  | true =>
    rw [hin, if_pos rfl] at HINS
    go_wp2
    go_ret
    refine ⟨T, rfl, ?_, Fr.of_below HB2.out, Tgr.refl _ _⟩
    rw [HINS.out]
    exact ⟨_, hs, HC2.out, HO2.out, HH.out, HSo.out, HT.out⟩
  | false =>
    rw [hin, if_neg (by decide)] at HINS
    go_wp2_with (at_builtin; refine stopHere ?_)
    refine goHere ?_
    refine ap_one' (K := cH) _ ty_nodes rfl _ _ rfl (B := C + 1) (xs := hs) rfl HO2.out ⟨A, L, c⟩ rfl (g := w2.heap.size) (by simp) rfl (by have := HHL.out; omega) (by have := HC2.out.lt; omega) ?_
    intro v1 w4 ho1 hg1 hb1 hat1
    have hne : some C ≠ (Value.slice A2 hs.length c2).ownBlock := fun h => HNC.out C h.symm rfl
    have hne2 : some W.heap.size ≠ (Value.slice A2 hs.length c2).ownBlock := fun h => by
      have := HLT.out _ ((HT.out _).2 (.inr h.symm)); omega
    have hCW : C < W.heap.size := HLT.out C ((HT.out C).2 (.inl rfl))
    have hba4 := below_alloc' w2 (.cells #[.slice A L c] 26)
    have hC4 : Blk w4 C 46 #[.slice A2 hs.length c2] := (HC2.out.below hba4 HC2.out.lt).grown hg1 hne
    have hK4 : Blk w4 W.heap.size 26 #[.slice A L c] := (HK2.out.below hba4 HK2.out.lt).grown hg1 hne2
    have HC5 := Lib.hid (hC4.set_ 0 v1)
    have HK5 := Lib.hid (hK4.far (p := ⟨C, 0, none⟩) (by simp; omega) v1)
    have HO5 := Lib.hid (ho1.setBelow (p := ⟨C, 0, none⟩) (by simp) v1)
    have HF5 : Hid (Fr C T W (w4.setCell ⟨C, 0, none⟩ v1)) := Lib.hid (((Fr.of_below HB2.out).trans (Tgr.refl _ _) (Fr.of_grown (grown_alloc _ hg1) fun k hk => by
      have := (HO2.out.block k hk).1
      exact ⟨by omega, (HT.out k).2 (.inr hk)⟩)).trans (Tgr.refl _ _) (Fr.set_ v1 ⟨Nat.le_refl _, (HT.out C).2 (.inl rfl)⟩))
    have HAT := Lib.hid hat1
    have HW2 := Lib.hid HB2.out.size
    clear k0 k1 l0 l1 f0 ho1 hg1 hb1 hat1 hba4
    have k0 := hC4.cell
    have l0 := hC4.lt
    have f0 := hC4.frozen
    have k1 := HK5.out.cell
    have l1 := hK4.lt
    clear hC4 hK4
    obtain ⟨A3, c3, hv1⟩ := HO5.out.opn
    generalize hln : (hs ++ [(⟨A, L, c⟩ : Hd)]).length = ln at hv1
    subst hv1
    have HLN := Lib.hid hln
    clear hln
    go_wp2
    go_ret
    refine ⟨fun k => k = C ∨ (Value.slice A3 ln c3).ownBlock = some k, rfl, ?_, HF5.out, ?_⟩
    · rw [HINS.out]
      exact ⟨_, hs ++ [⟨A, L, c⟩], HC5.out, HO5.out, HH.out.snoc (by have := HX.out; exact this), HINS.out ▸ HSo.out.ins HG.out, fun k => Iff.rfl⟩
    · intro k hk
      rcases hk with rfl | hk
      · exact .inl ((HT.out _).2 (.inl rfl))
      · rcases HAT.out with h | h
        · exact .inl ((HT.out k).2 (.inr (h ▸ hk)))
        · right
          have e : w2.heap.size + 1 = k := by rw [h] at hk; simpa using hk
          have := HW2.out
          omega
theorem mpO_id {s : Nat} (f : Fm) (q : List Fm) : mpO s ins (fun _ g => g) f q = (outs s f q, f) := by
  induction f generalizing q with
  | var t => rfl
  | fls => rfl
  | bin k a b iha ihb => simp only [mpO, iha, ihb, outs_bin]
  | un k a ih =>
    simp only [mpO]
    by_cases ho : a.occ s = true
    · rw [if_pos ho]; unfold outs; rw [occs, if_pos ho]; rfl
    · rw [if_neg ho]; unfold outs; rw [occs, if_neg ho]; rfl
set_option maxRecDepth 100000 in
theorem impl_outerParts (f : Fm) (s : Nat) (v : Value) (w : World) (h : Sl cN w v (enc f)) (hok : f.ok = true) (hl : (enc f).length ≤ 100) (hs : s ≤ 5) :
    Calls Tryz.prog 94 #[v, .int .i64 s] w fun e w' => ∃ u hs, e = .returned u ∧ Ow cH 26 w.heap.size w' u hs ∧ Hs w hs (outs s f []) ∧ Below w.heap.size w w' := by
  have hba := below_alloc' w (.cells #[.slice none 0 0] 46)
  have hk := Blk.new w 46 #[.slice none 0 0]
  have F : MapF (List Fm) s (occs s f) ins (fun _ g => g) 100 157 #[.pointer (some ⟨w.heap.size, 0, none⟩)] w w.heap.size (OutI w w.heap.size (occs s f)) := {
    ent := en_outerParts_1
    pos := by omega
    base := Nat.le_refl _
    lt := fun q T W hI b hT => by
      obtain ⟨u, hs, hC, hO, hH, hS, hTT⟩ := hI
      rcases (hTT b).1 hT with rfl | h
      · exact ⟨Nat.le_refl _, hC.lt⟩
      · have := hO.block b h
        omega
    keep := fun q T W W1 hI hb hT => by
      obtain ⟨u, hs, hC, hO, hH, hS, hTT⟩ := hI
      refine ⟨u, hs, (hT _ ((hTT _).2 (.inl rfl))).trans hC, ?_, hH, hS, hTT⟩
      refine ⟨hO.1, hO.2.1, ?_⟩
      rcases hO.2.2 with h2 | ⟨g, cap, cur, hv, hB, hg, r⟩
      · exact .inl h2
      · exact .inr ⟨g, cap, cur, hv, hB, (hT g ((hTT g).2 (.inr (by rw [hv]; rfl)))).trans hg, r⟩
    run := fun q T W g v hI hb0 hB hg hok hl h0 => by
      refine (impl_outerParts_1 w w.heap.size (occs s f) q T W g v hI hb0 (Nat.le_refl _) (Nat.le_trans (occs_count s f) (by omega)) hg hl (fun x hx => Nat.le_trans (occs_len hx).2 (by omega)) h0).mono ?_
      rintro e W' ⟨T', rfl, h1, h2, h3⟩
      exact ⟨v, T', rfl, h0.below (h2.thenBelow hb0 (Nat.le_refl _) hb0.size), hl, h1, h2, h3⟩ }
  have HM := Lib.hid (impl_mapOuter F (by omega) hs f hok (fun g hg => hg) hl [] (fun k => k = w.heap.size ∨ (Value.slice none 0 0).ownBlock = some k) (w.alloc (.cells #[.slice none 0 0] 46)) v
    ⟨.slice none 0 0, [], hk, Ow.nil _ _, Hs.nil, ⟨by simp, fun x hx => by cases hx⟩, fun k => Iff.rfl⟩ hba (by simp) h)
  have HB := Lib.hid hba
  clear F hk hba h
  go_enter Tryz.func94, Tryz.ntmps94
  go_upto_region 2 with fail
  generalize World.alloc w _ = W at *
  go_wp2_with fail
  refine HM.out.mono ?_
  rintro e w1 ⟨u, T', rfl, -, -, hI, hF, -⟩
  rw [mpO_id] at hI
  obtain ⟨u1, hs1, hC, hO, hH, -, -⟩ := hI
  have HO := Lib.hid (hO.mono (B' := w.heap.size) (by omega))
  have HH := Lib.hid hH
  have HB1 : Hid (Below w.heap.size w w1) := Lib.hid (hF.thenBelow HB.out (Nat.le_refl _) HB.out.size)
  have k0 := hC.cell
  have l0 := hC.lt
  clear hO hH hF hC
  go_wp2
  go_ret
  exact ⟨_, hs1, rfl, HO.out, HH.out, HB1.out⟩
theorem en_replaceOuter_1 : ∀ (args : Array Value) (w : World), (callFunc 171 args).run Tryz.prog w = .ok (.enter 171 args) w := enters Tryz.func171 (by kernel_rfl) (by kernel_rfl)
theorem en_replaceOuter_1_1 : ∀ (args : Array Value) (w : World), (callFunc 173 args).run Tryz.prog w = .ok (.enter 173 args) w := enters Tryz.func173 (by kernel_rfl) (by kernel_rfl)
theorem impl_replaceOuter_1_1 (G : Nat) (v u : Value) (A : Option Addr) (n c : Nat) (xs ys : List Nd) (w : World) (hG : w.cell? ⟨G, 0, none⟩ = some v) (hv : v = .slice A n c) (hx : Sl cN w v xs) (hy : Sl cN w u ys) (hl : xs.length ≤ 1073741824) (hl2 : ys.length ≤ 1073741824) :
    Calls Tryz.prog 173 #[u, .pointer (some ⟨G, 0, none⟩)] w fun e w' => e = .returned (.bool (decide (ys = xs))) ∧ Below w.heap.size w w' := by
  subst hv
  have HE : Hid (decide (xs = ys) = decide (ys = xs)) := Lib.hid (by rw [decide_eq_decide]; exact eq_comm)
  have HS := Lib.hid (impl_same _ u xs ys w hx hy hl hl2)
  rw [HE.out] at HS
  clear hx hy
  go_enter Tryz.func173, Tryz.ntmps173
  go_wp2_with fail
  refine HS.out.mono ?_
  rintro e w1 ⟨rfl, hb⟩
  go_wp2
  go_ret
  exact ⟨rfl, hb⟩
theorem Sl2.atF {W : World} {A : Option Addr} {n c : Nat} {I : List Fm} (h : Sl2 cN W (.slice A n c) (I.map enc)) {k : Nat} (hk : k < I.length) :
    ∃ b o Ai ni ci, A = some ⟨b, o, none⟩ ∧ b < W.heap.size ∧ W.cell? ⟨b, o + k, none⟩ = some (.slice Ai ni ci) ∧ Sl cN W (.slice Ai ni ci) (enc (I.getD k .fls)) := by
  obtain ⟨b, o, Ai, ni, ci, h1, h2, h3, h4⟩ := h.at_ (k := k) (by simpa using hk)
  refine ⟨b, o, Ai, ni, ci, h1, h2, h3, ?_⟩
  rw [List.getElem_map] at h4
  rw [List.getD_eq_getElem?_getD, List.getElem?_eq_getElem hk]
  exact h4
set_option maxHeartbeats 1000000 in
set_option maxRecDepth 100000 in
theorem impl_replaceOuter_1 (Bi Bo : Nat) (O I : List Fm) (g : Fm) (Ai Ao : Option Addr) (ci co : Nat) (v : Value) (W : World) (hi : W.cell? ⟨Bi, 0, none⟩ = some (.slice Ai I.length ci)) (ho : W.cell? ⟨Bo, 0, none⟩ = some (.slice Ao O.length co)) (li : Bi < W.heap.size) (lo : Bo < W.heap.size)
    (sI : Sl2 cN W (.slice Ai I.length ci) (I.map enc)) (sO : Sl2 cN W (.slice Ao O.length co) (O.map enc)) (hIO : I.length = O.length) (hx : ix O g < O.length) (hOl : O.length ≤ 1000) (hlO : ∀ x ∈ O, (enc x).length ≤ 100) (hl : (enc g).length ≤ 100) (h : Sl cN W v (enc g)) :
    Calls Tryz.prog 171 (#[v] ++ #[.pointer (some ⟨Bi, 0, none⟩), .pointer (some ⟨Bo, 0, none⟩)]) W fun e W' => ∃ u, e = .returned u ∧ Sl cN W' u (enc (ims O I g)) ∧ Below W.heap.size W W' := by
  rw [show (#[v] ++ #[Value.pointer (some ⟨Bi, 0, none⟩), .pointer (some ⟨Bo, 0, none⟩)] : Array Value) = #[v, .pointer (some ⟨Bi, 0, none⟩), .pointer (some ⟨Bo, 0, none⟩)] from rfl]
  obtain ⟨A, c, rfl⟩ := h.opn
  obtain ⟨b, o, Ae, ne, ce, rfl, hbl, hce, hse⟩ := sI.atF (k := ix O g) (by omega)
  have hba := below_alloc' W (.cells #[.slice A (enc g).length c] 26)
  have hk := Blk.new W 26 #[.slice A (enc g).length c]
  have hCon := (fun (W1 : World) (hb : Below (W.alloc (.cells #[.slice A (enc g).length c] 26)).heap.size (W.alloc (.cells #[.slice A (enc g).length c] 26)) W1) => slices_IndexFunc_nodes' (.slice Ao O.length co) (O.map enc) 173 #[.pointer (some ⟨W.heap.size, 0, none⟩)] (fun i => decide (enc (O.getD i .fls) = enc g)) W1
    ((sO.below hba).below hb) (by rw [List.length_map]; omega) en_replaceOuter_1_1 (fun W2 hW2 u2 i hi hu2 => by
      have hi' : i < O.length := by simpa using hi
      rw [List.getElem_map] at hu2
      have hgi : O.getD i .fls = O[i] := by rw [List.getD_eq_getElem?_getD, List.getElem?_eq_getElem hi']; rfl
      rw [show (#[u2] ++ #[Value.pointer (some ⟨W.heap.size, 0, none⟩)] : Array Value) = #[u2, .pointer (some ⟨W.heap.size, 0, none⟩)] from rfl, hgi]
      have hbk := (hk.below hb hk.lt).below hW2 (hk.below hb hk.lt).lt
      refine impl_replaceOuter_1_1 W.heap.size _ u2 A (enc g).length c (enc g) (enc O[i]) W2 (hbk.cell 0) rfl (((h.below hba).below hb).below hW2) hu2 (by omega) ?_
      have := hlO _ (List.getElem_mem hi')
      omega))
  rw [List.length_map, ix_fidx hx] at hCon
  have HCon := Lib.hid hCon
  clear hCon
  have HBA := Lib.hid hba
  have HSE : Hid (Sl cN W (.slice Ae ne ce) (enc (ims O I g))) := Lib.hid hse
  have i1 := (hba.cell (p := ⟨Bi, 0, none⟩) li).trans hi
  have o1 := (hba.cell (p := ⟨Bo, 0, none⟩) lo).trans ho
  have e1 := (hba.cell (p := ⟨b, o + ix O g, none⟩) hbl).trans hce
  have hsz := hba.size
  have li1 : Bi < (W.alloc (.cells #[.slice A (enc g).length c] 26)).heap.size := by omega
  have lo1 : Bo < (W.alloc (.cells #[.slice A (enc g).length c] 26)).heap.size := by omega
  have lb1 : b < (W.alloc (.cells #[.slice A (enc g).length c] 26)).heap.size := by omega
  have hx2 : ((ix O g : Nat) : Int) < ((I.length : Nat) : Int) := by omega
  have hx3 : ix O g < I.length := by omega
  clear hk h hba hse hi ho li lo hbl hce sI sO hOl hlO hl hsz hIO hx
  generalize (enc g).length = L at *
  generalize ix O g = X at *
  go_enter Tryz.func171, Tryz.ntmps171
  go_upto_region 1 with fail
  generalize World.alloc W _ = W1 at *
  refine wp_region_sched (Below W1.heap.size W1) 7 [0, 1, 2, 4, 5, 6] [0, 1, 2, 3, 4, 5, 6] (by kernel_rfl) (by kernel_rfl) (Below.refl _ _).drew ?_
  repeat
    apply wpSched_q rfl rfl
    case h =>
      intro w' hI K hK
      have i1' := (hI.cell (p := ⟨Bi, 0, none⟩) li1).trans i1
      have o1' := (hI.cell (p := ⟨Bo, 0, none⟩) lo1).trans o1
      have e1' := (hI.cell (p := ⟨b, o + X, none⟩) lb1).trans e1
      simp only [quietV, stillV]
      go_simp
      exact hK
    go_simp
  refine wpSched_r rfl rfl ?_ (Below.refl _ _).drew
  intro K hK _
  go_simp
  refine (HCon.out _ (Below.refl _ _).drew).mono ?_
  rintro e w2 ⟨rfl, hb⟩
  have hb2 : Below W1.heap.size W1 w2 := (Below.refl _ _).drew.trans hb
  refine hK _ _ hb2 ?_
  clear hK K hb
  repeat
    apply wpSched_q rfl rfl
    case h =>
      intro w' hI K hK
      have i1' := (hI.cell (p := ⟨Bi, 0, none⟩) li1).trans i1
      have o1' := (hI.cell (p := ⟨Bo, 0, none⟩) lo1).trans o1
      have e1' := (hI.cell (p := ⟨b, o + X, none⟩) lb1).trans e1
      simp only [quietV, stillV]
      go_simp
      exact hK
    go_simp
  refine wpSched_nil ?_
  try simp only [List.drop_succ_cons, List.drop_zero, List.drop_nil]
  have HB2 := Lib.hid (bthen HBA.out hb2)
  clear hb2 i1 o1 e1
  go_wp2
  go_ret
  exact ⟨_, rfl, HSE.out.below HB2.out, HB2.out⟩
theorem mpO_rep {s : Nat} (r : Fm → Fm) (f : Fm) : (mpO s (fun (_ : Unit) _ => ()) (fun _ => r) f ()).2 = repO s r f := by
  induction f with
  | var t => rfl
  | fls => rfl
  | bin k a b iha ihb => simp only [mpO, repO, iha, ihb]
  | un k a ih =>
    simp only [mpO, repO]
    split <;> rfl
set_option maxRecDepth 100000 in
theorem impl_replaceOuter (f : Fm) (s : Nat) (O I : List Fm) (Ai Ao : Option Addr) (ci co : Nat) (v : Value) (w : World) (h : Sl cN w v (enc f)) (hok : f.ok = true) (hl : (enc f).length ≤ 100) (hs : s ≤ 5)
    (sO : Sl2 cN w (.slice Ao O.length co) (O.map enc)) (sI : Sl2 cN w (.slice Ai I.length ci) (I.map enc)) (hIO : I.length = O.length) (hx : ∀ g ∈ occs s f, ix O g < O.length) (hOl : O.length ≤ 1000) (hlO : ∀ x ∈ O, (enc x).length ≤ 100) (hlI : ∀ x ∈ I, (enc x).length ≤ 8192) :
    Calls Tryz.prog 100 #[v, .int .i64 s, .slice Ao O.length co, .slice Ai I.length ci] w fun e w' => ∃ u, e = .returned u ∧ Sl cN w' u (enc (repO s (ims O I) f)) ∧ Below w.heap.size w w' := by
  have hba := below_alloc' w (.cells #[.slice Ao O.length co] 46)
  have hka := Blk.new w 46 #[.slice Ao O.length co]
  have hbb := below_alloc' (w.alloc (.cells #[.slice Ao O.length co] 46)) (.cells #[.slice Ai I.length ci] 46)
  have hkb : Blk _ (w.heap.size + 1) _ _ := Blk.new' (w.alloc (.cells #[.slice Ao O.length co] 46)) 46 #[.slice Ai I.length ci] (by simp)
  have hb := bthen hba hbb
  have hka2 := hka.below hbb hka.lt
  have hsz := hb.size
  have HB := Lib.hid hb
  have hWz : ((w.alloc (.cells #[.slice Ao O.length co] 46)).alloc (.cells #[.slice Ai I.length ci] 46)).heap.size = w.heap.size + 2 := by simp
  generalize hW : (w.alloc (.cells #[.slice Ao O.length co] 46)).alloc (.cells #[.slice Ai I.length ci] 46) = W at *
  have F : MapF Unit s (occs s f) (fun _ _ => ()) (fun _ => ims O I) 8192 171 #[.pointer (some ⟨w.heap.size + 1, 0, none⟩), .pointer (some ⟨w.heap.size, 0, none⟩)] W W.heap.size (fun _ T W1 => (∀ k, ¬ T k) ∧ Below W.heap.size W W1) := {
    ent := en_replaceOuter_1
    pos := by omega
    base := Nat.le_refl _
    lt := fun q T W1 hI b hT => (hI.1 b hT).elim
    keep := fun q T W1 W2 hI hb hT => ⟨hI.1, hI.2.trans hb⟩
    run := fun q T W1 g v hI hb0 hB hg hok hl h0 => by
      have e1 : ∀ k (u : Value), W.cell? ⟨k, 0, none⟩ = some u → k < W.heap.size → W1.cell? ⟨k, 0, none⟩ = some u := fun k u hc hk => (hb0.cell (p := ⟨k, 0, none⟩) hk).trans hc
      refine (impl_replaceOuter_1 (w.heap.size + 1) w.heap.size O I g Ai Ao ci co v W1 (e1 _ _ (hkb.cell 0) hkb.lt) (e1 _ _ (hka2.cell 0) hka2.lt) (Nat.lt_of_lt_of_le hkb.lt hb0.size) (Nat.lt_of_lt_of_le hka2.lt hb0.size) ((sI.below hb).below hb0) ((sO.below hb).below hb0) hIO (hx g hg) hOl hlO hl (h0.below hb0)).mono ?_
      rintro e W' ⟨u, rfl, h1, h2⟩
      refine ⟨u, T, rfl, h1, ?_, ⟨hI.1, hb0.trans (h2.mono hb0.size)⟩, Fr.of_below h2, Tgr.refl _ _⟩
      exact hlI _ (getF_mem (by have := hx g hg; omega)) }
  have HM := Lib.hid (impl_mapOuter F (by omega) hs f hok (fun g hg => hg) hl () (fun _ => False) W v ⟨fun k h => h, Below.refl _ _⟩ (Below.refl _ _) (Nat.le_refl _) (h.below hb))
  subst hW
  clear hIO F hka hkb hba hbb hb hka2 h sO sI
  go_enter Tryz.func100, Tryz.ntmps100
  go_upto_region 1 with fail
  generalize World.alloc (w.alloc _) _ = W at *
  go_wp2_with fail
  refine HM.out.mono ?_
  rintro e w1 ⟨u, T', rfl, hs1, -, ⟨hT, -⟩, hF, -⟩
  rw [mpO_rep] at hs1
  have HS := Lib.hid hs1
  have HB1 : Hid (Below w.heap.size w w1) := Lib.hid (hF.thenBelow HB.out hsz hsz)
  clear hF hs1
  go_wp2
  go_ret
  exact ⟨_, rfl, HS.out, HB1.out⟩
end Go.Proofs.YtgcoohlakcncbaaGreat

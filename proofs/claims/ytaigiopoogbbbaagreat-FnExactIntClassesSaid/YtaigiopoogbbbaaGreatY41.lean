/- Contracts of the reference: lists of formulas of an intuitionistic search. -/
import Derived.Test.YtaigiopoogbbbaaGreatY23
import Derived.Test.YtaigiopoogbbbaaGreatY17
import Derived.Test.YtaigiopoogbbbaaGreatY13
namespace Go.Proofs.YtaigiopoogbbbaaGreat
open Go.RowKit
set_option linter.unusedVariables false
set_option linter.unusedSimpArgs false
theorem enc_cutI : ∀ (a b : Fm) (r r' : List Nd), enc a ++ r = enc b ++ r' → a = b ∧ r = r' := by
  intro a
  induction a with
  | var s =>
    intro b r r' h
    cases b with
    | var t =>
      simp only [enc, List.singleton_append, List.cons.injEq, Prod.mk.injEq] at h
      refine ⟨?_, h.2⟩
      have : s = t := by omega
      rw [this]
    | fls => simp [enc] at h
    | bin k c d => cases k <;> simp [enc, BK.i] at h
    | un k c => cases k <;> simp [enc, UK.i] at h
  | fls =>
    intro b r r' h
    cases b with
    | var t => simp [enc] at h
    | fls => simp only [enc, List.singleton_append, List.cons.injEq, true_and] at h; exact ⟨rfl, h⟩
    | bin k c d => cases k <;> simp [enc, BK.i] at h
    | un k c => cases k <;> simp [enc, UK.i] at h
  | bin k a1 a2 ih1 ih2 =>
    intro b r r' h
    cases b with
    | var t => cases k <;> simp [enc, BK.i] at h
    | fls => cases k <;> simp [enc, BK.i] at h
    | bin k' c d =>
      simp only [enc, List.cons_append, List.append_assoc, List.cons.injEq, Prod.mk.injEq] at h
      obtain ⟨⟨hk, -⟩, h⟩ := h
      have hkk : k = k' := by cases k <;> cases k' <;> first | rfl | (simp [BK.i] at hk)
      obtain ⟨e1, h2⟩ := ih1 _ _ _ h
      obtain ⟨e2, h3⟩ := ih2 _ _ _ h2
      exact ⟨by rw [hkk, e1, e2], h3⟩
    | un k' c => cases k <;> cases k' <;> simp [enc, BK.i, UK.i] at h
  | un k a1 ih =>
    intro b r r' h
    cases b with
    | var t => cases k <;> simp [enc, UK.i] at h
    | fls => cases k <;> simp [enc, UK.i] at h
    | bin k' c d => cases k <;> cases k' <;> simp [enc, BK.i, UK.i] at h
    | un k' c =>
      simp only [enc, List.cons_append, List.cons.injEq, Prod.mk.injEq] at h
      obtain ⟨⟨hk, -⟩, h⟩ := h
      have hkk : k = k' := by cases k <;> cases k' <;> first | rfl | (simp [UK.i] at hk)
      obtain ⟨e1, h2⟩ := ih _ _ _ h
      exact ⟨by rw [hkk, e1], h2⟩
theorem enc_eqI {a b : Fm} (h : enc a = enc b) : a = b := (enc_cutI a b [] [] (by rw [h])).1
theorem enc_iffI {a b : Fm} : enc a = enc b ↔ a = b := ⟨enc_eqI, fun h => by rw [h]⟩
/-- a list of formulas, each behind its header -/
def FsR (w : World) (v : Value) (ps : List (Hd × Fm)) : Prop := Sl cH w v (ps.map (·.1)) ∧ ∀ p ∈ ps, Sl cN w p.1.val (enc p.2)
def fs2 (ps : List (Hd × Fm)) : List Fm := ps.map (·.2)
def gdI (fs : List Fm) : Prop := ∀ f ∈ fs, f.ok = true ∧ f.plain = true ∧ (enc f).length ≤ 40
theorem FsR.below {w w' : World} {v : Value} {ps : List (Hd × Fm)} (h : FsR w v ps) (hb : Below w.heap.size w w') : FsR w' v ps := ⟨h.1.below hb, fun p hp => (h.2 p hp).below hb⟩
theorem FsR.opn {w : World} {v : Value} {ps : List (Hd × Fm)} (h : FsR w v ps) : ∃ A c, v = .slice A ps.length c := by
  obtain ⟨A, c, e⟩ := h.1.opn
  rw [List.length_map] at e
  exact ⟨A, c, e⟩
theorem FsR.at_ {w : World} {A : Option Addr} {n c : Nat} {ps : List (Hd × Fm)} (h : FsR w (.slice A n c) ps) {k : Nat} (hk : k < ps.length) :
    ∃ b o Ai ci, A = some ⟨b, o, none⟩ ∧ b < w.heap.size ∧ w.cell? ⟨b, o + k, none⟩ = some (.slice Ai (enc (ps[k]'hk).2).length ci) ∧ Sl cN w (.slice Ai (enc (ps[k]'hk).2).length ci) (enc (ps[k]'hk).2) := by
  obtain ⟨b, o, hA, hb, hc⟩ := h.1.cell (k := k) (by rw [List.length_map]; exact hk)
  have hs := h.2 (ps[k]'hk) (List.getElem_mem hk)
  obtain ⟨Ai, ci, e⟩ := hs.opn
  have h1 := hc 0 (ps[k]'hk).1.val (by simp [cH])
  rw [e] at hs h1
  exact ⟨b, o, Ai, ci, hA, hb, by simpa [cH] using h1, hs⟩
/-- is a formula in a list? -/
def hasF (ps : List (Hd × Fm)) (f : Fm) : Bool := ps.any fun q => decide (enc q.2 = enc f)
theorem hasF_iff {ps : List (Hd × Fm)} {f : Fm} : hasF ps f = true ↔ f ∈ fs2 ps := by
  unfold hasF fs2
  rw [List.any_eq_true, List.mem_map]
  exact ⟨fun ⟨q, hq, h⟩ => ⟨q, hq, enc_eqI (of_decide_eq_true h)⟩, fun ⟨q, hq, h⟩ => ⟨q, hq, decide_eq_true (by rw [h])⟩⟩
theorem hasF_no {ps : List (Hd × Fm)} {f : Fm} (h : hasF ps f = false) : f ∉ fs2 ps := fun hm => by rw [hasF_iff.2 hm] at h; cases h
/-- the longest list that is walked -/
def Lim : Nat := 200000
set_option maxRecDepth 100000 in
theorem spec_l23Has (ps : List (Hd × Fm)) (f : Fm) (v u : Value) (w : World) (h : FsR w v ps) (h' : Sl cN w u (enc f)) (hl : ps.length ≤ 200000) (hg : gdI (fs2 ps)) (hf : (enc f).length ≤ 40) :
    Calls Tryz.prog 39 #[v, u] w fun e w' => e = .returned (.bool (hasF ps f)) ∧ Below w.heap.size w w' := by
  obtain ⟨A, c, rfl⟩ := h.opn
  obtain ⟨B, d, rfl⟩ := h'.opn
  have HE := Lib.hid (fun (q : Hd × Fm) (hq : q ∈ ps) v u W a b => spec_l02EqualQ v u (enc q.2) (enc f) W a b (by have := (hg q.2 (List.mem_map.2 ⟨q, hq, rfl⟩)).2.2; omega) (by omega))
  have H := Lib.hid h
  have HF := Lib.hid h'
  have HT : Hid (∀ k (hk : k < ps.length), (ps.take (k + 1)).any (fun q => decide (enc q.2 = enc f)) = ((ps.take k).any (fun q => decide (enc q.2 = enc f)) || decide (enc (ps[k]'hk).2 = enc f))) := Lib.hid fun k hk => by
    rw [List.take_succ_eq_append_getElem hk, List.any_append]
    simp
  have HA : Hid ((ps.take ps.length).any (fun q => decide (enc q.2 = enc f)) = hasF ps f) := Lib.hid (by rw [List.take_length]; rfl)
  have HY : Hid (∀ k (hk : k < ps.length), decide (enc (ps[k]'hk).2 = enc f) = true → hasF ps f = true) := Lib.hid fun k hk h => List.any_eq_true.2 ⟨_, List.getElem_mem hk, h⟩
  clear h h' hg
  go_enter Tryz.func39, Tryz.ntmps39
  go_wp2
  go_loopw [5] (fun i wr => ∃ j : Nat, j ≤ ps.length ∧ i = .int .i64 j ∧ (ps.take j).any (fun q => decide (enc q.2 = enc f)) = false ∧ Below w.heap.size w wr) (fun i _ => ps.length - (intOf i).toNat)
  case atStart => exact ⟨0, Nat.zero_le _, rfl, rfl, Below.refl _ _⟩
  case round =>
    obtain ⟨j, hj, rfl, hno, hb⟩ := hrel
    have HNO := Lib.hid hno
    have HB := Lib.hid hb
    have H1 := Lib.hid (H.out.below hb)
    have F1 := Lib.hid (HF.out.below hb)
    clear hno hb
    by_cases hlt : j < ps.length
    · have i1 : (j : Int) < (ps.length : Int) := by omega
      obtain ⟨b, o, Ai, ci, rfl, hbl, hc, hs⟩ := H1.out.at_ hlt
      have HX := Lib.hid (HE.out (ps[j]'hlt) (List.getElem_mem hlt) _ _ wr hs F1.out)
      have HS := Lib.hid (HT.out j hlt)
      have HYj := Lib.hid (HY.out j hlt)
      rw [HNO.out, Bool.false_or] at HS
      clear hs
      generalize decide (enc (ps[j]'hlt).2 = enc f) = r at *
      generalize (enc (ps[j]'hlt).2).length = m at *
      go_wp2_with fail
      refine HX.out.mono ?_
      rintro e w2 ⟨rfl, hb⟩
      have HB2 := Lib.hid (bthen HB.out hb)
      clear hb hc hbl
      cases r
      · go_wp2
        go_roundw
        case rel => exact ⟨j + 1, by omega, by go_num, HS.out, HB2.out⟩
        case measure => simp [intOf]; omega
      · go_wp2
        go_ret
        exact ⟨by rw [HYj.out trivial]; rfl, HB2.out⟩
    · obtain rfl : j = ps.length := by omega
      rw [HA.out] at HNO
      go_wp2
      go_ret
      exact ⟨by rw [HNO.out]; rfl, HB.out⟩
/-- a list with more formulas, each once -/
def wth (ps ms : List (Hd × Fm)) : List (Hd × Fm) := ms.foldl (fun acc m => if hasF acc m.2 = true then acc else acc ++ [m]) ps
theorem wth_snoc (ps ms : List (Hd × Fm)) (m : Hd × Fm) : wth ps (ms ++ [m]) = if hasF (wth ps ms) m.2 = true then wth ps ms else wth ps ms ++ [m] := by
  unfold wth
  rw [List.foldl_append]
  rfl
theorem wth_mem (ps ms : List (Hd × Fm)) (x : Fm) : x ∈ fs2 (wth ps ms) ↔ x ∈ fs2 ms ∨ x ∈ fs2 ps := by
  induction ms generalizing ps with
  | nil => simp [wth, fs2]
  | cons m ms ih =>
    show x ∈ fs2 (wth (if hasF ps m.2 = true then ps else ps ++ [m]) ms) ↔ _
    rw [ih]
    by_cases h : hasF ps m.2 = true
    · rw [if_pos h]
      have := hasF_iff.1 h
      simp only [fs2, List.map_cons, List.mem_cons] at this ⊢
      constructor
      · rintro (h | h)
        · exact .inl (.inr h)
        · exact .inr h
      · rintro ((rfl | h) | h)
        · exact .inr this
        · exact .inl h
        · exact .inr h
    · rw [if_neg h]
      simp only [fs2, List.map_cons, List.map_append, List.mem_cons, List.mem_append, List.map_nil, List.not_mem_nil, or_false]
      constructor
      · rintro (h | h | h)
        · exact .inl (.inr h)
        · exact .inr h
        · exact .inl (.inl h)
      · rintro ((h | h) | h)
        · exact .inr (.inr h)
        · exact .inl h
        · exact .inr (.inl h)
theorem wth_sw (ps ms : List (Hd × Fm)) : swL (fs2 (wth ps ms)) ≤ swL (fs2 ms) + swL (fs2 ps) := by
  induction ms generalizing ps with
  | nil => simp [wth, fs2, swL]
  | cons m ms ih =>
    show swL (fs2 (wth (if hasF ps m.2 = true then ps else ps ++ [m]) ms)) ≤ _
    refine Nat.le_trans (ih _) ?_
    by_cases h : hasF ps m.2 = true
    · rw [if_pos h]; simp only [fs2, List.map_cons, swL]; omega
    · rw [if_neg h]
      have e : fs2 (ps ++ [m]) = fs2 ps ++ [m.2] := by simp [fs2]
      rw [e, swL_app]
      simp only [fs2, List.map_cons, swL]
      omega
theorem wth_len (ps ms : List (Hd × Fm)) : (wth ps ms).length ≤ ms.length + ps.length := by
  induction ms generalizing ps with
  | nil => simp [wth]
  | cons m ms ih =>
    show (wth (if hasF ps m.2 = true then ps else ps ++ [m]) ms).length ≤ _
    refine Nat.le_trans (ih _) ?_
    by_cases h : hasF ps m.2 = true
    · rw [if_pos h]; simp only [List.length_cons]; omega
    · rw [if_neg h]; simp only [List.length_append, List.length_cons, List.length_nil]; omega
theorem wth_gd {ps ms : List (Hd × Fm)} (h : gdI (fs2 ps)) (h' : gdI (fs2 ms)) : gdI (fs2 (wth ps ms)) := fun f hf => ((wth_mem ps ms f).1 hf).elim (h' f) (h f)
theorem wth_all {P : Hd × Fm → Prop} {ps ms : List (Hd × Fm)} (h : ∀ p ∈ ps, P p) (h' : ∀ p ∈ ms, P p) : ∀ p ∈ wth ps ms, P p := by
  induction ms generalizing ps with
  | nil => exact h
  | cons m ms ih =>
    refine ih (ps := if hasF ps m.2 = true then ps else ps ++ [m]) (fun p hp => ?_) (fun p hp => h' p (by simp [hp]))
    split at hp
    · exact h p hp
    · rw [List.mem_append, List.mem_singleton] at hp
      rcases hp with hp | rfl
      · exact h p hp
      · exact h' _ (by simp)
theorem ty_fms : Ty Tryz.prog 27 37 (.slice none 0 0) 1 24 := Ty.mk' Tryz.underlying27 (by kernel_rfl) rfl (by decide)
set_option maxRecDepth 100000 in
theorem spec_l23With (ps ms : List (Hd × Fm)) (v u : Value) (w : World) (h : FsR w v ps) (h' : FsR w u ms) (hl : ps.length + ms.length ≤ 200000) (hg : gdI (fs2 ps)) (hg' : gdI (fs2 ms)) :
    Calls Tryz.prog 42 #[v, u] w fun e w' => ∃ r, e = .returned r ∧ FsR w' r (wth ps ms) ∧ Below w.heap.size w w' := by
  obtain ⟨A, c, rfl⟩ := h.opn
  obtain ⟨B, d, rfl⟩ := h'.opn
  have H := Lib.hid h
  have HM := Lib.hid h'
  have HT : Hid (∀ k (hk : k < ms.length), wth ps (ms.take (k + 1)) = if hasF (wth ps (ms.take k)) (ms[k]'hk).2 = true then wth ps (ms.take k) else wth ps (ms.take k) ++ [ms[k]'hk]) := Lib.hid fun k hk => by
    rw [List.take_succ_eq_append_getElem hk, wth_snoc]
  have HLn : Hid (∀ k, k ≤ ms.length → (wth ps (ms.take k)).length ≤ 200000) := Lib.hid fun k hk => by
    have := wth_len ps (ms.take k)
    rw [List.length_take] at this
    omega
  have HG : Hid (∀ k, gdI (fs2 (wth ps (ms.take k)))) := Lib.hid fun k => wth_gd hg fun f hf => hg' f (by
    obtain ⟨q, hq, rfl⟩ := List.mem_map.1 hf
    exact List.mem_map.2 ⟨q, List.mem_of_mem_take hq, rfl⟩)
  have HG2 : Hid (∀ k (hk : k < ms.length), (enc (ms[k]'hk).2).length ≤ 40) := Lib.hid fun k hk => (hg' _ (List.mem_map.2 ⟨_, List.getElem_mem hk, rfl⟩)).2.2
  have HAll : Hid (∀ k W, (∀ p ∈ ps, Sl cN W p.1.val (enc p.2)) → (∀ p ∈ ms, Sl cN W p.1.val (enc p.2)) → ∀ p ∈ wth ps (ms.take k), Sl cN W p.1.val (enc p.2)) := Lib.hid fun k W h1 h2 => wth_all h1 fun p hp => h2 p (List.mem_of_mem_take hp)
  clear h h' hg hg'
  go_enter Tryz.func42, Tryz.ntmps42
  go_wp2_with (at_builtin; refine stopHere ?_)
  refine goHere ?_
  refine ap_sl (K := cH) _ ty_fms rfl _ _ rfl rfl rfl (B := w.heap.size) (xs := []) (news := ps.map (·.1)) (Ow.lit [] rfl rfl (Nat.le_refl _)) (H.out.1.alloc _) (by simp only [List.length_nil, List.length_map]; omega) (by simp) ?_
  intro v1 w1 ho hg1 hb1 hat
  have hb2 : Below w.heap.size w w1 := ((Below.refl _ _).alloc (Nat.le_refl _) _).trans hb1
  rw [List.nil_append] at ho
  have O := Lib.hid ho
  have B1 := Lib.hid hb2
  clear ho hg1 hb1 hat hb2
  go_wp2
  go_loopw [5, 6] (fun a i wr => ∃ k : Nat, i = .int .i64 (k : Int) ∧ k ≤ ms.length ∧ Ow cH 37 w.heap.size wr a ((wth ps (ms.take k)).map (·.1)) ∧ Below w.heap.size w wr) (fun _ i _ => ms.length - (intOf i).toNat)
  case atStart => exact ⟨0, rfl, Nat.zero_le _, by rw [List.take_zero]; exact O.out, B1.out⟩
  case round =>
    clear O B1
    obtain ⟨k, rfl, hk, ho, hb⟩ := hrel
    obtain ⟨w2, hw2⟩ : ∃ W, W = wr := ⟨_, rfl⟩
    subst hw2
    have O := Lib.hid ho
    have B2 := Lib.hid hb
    have H2 := Lib.hid (H.out.below hb)
    have M2 := Lib.hid (HM.out.below hb)
    clear ho hb
    obtain ⟨A5, c5, e5⟩ := O.out.opn
    rw [List.length_map] at e5
    subst e5
    have hln := HLn.out k hk
    have R2 : Hid (FsR w2 (.slice A5 (wth ps (ms.take k)).length c5) (wth ps (ms.take k))) := Lib.hid ⟨O.out.sl, HAll.out k w2 H2.out.2 M2.out.2⟩
    by_cases hkl : k < ms.length
    · have i1 : (k : Int) < (ms.length : Int) := by omega
      obtain ⟨b, o, Ai, ci, rfl, hbl, hc, hs⟩ := M2.out.at_ hkl
      have HX := Lib.hid (spec_l23Has _ (ms[k]'hkl).2 _ _ w2 R2.out hs hln (HG.out k) (HG2.out k hkl))
      have HTk := Lib.hid (HT.out k hkl)
      have hcell := (M2.out.1.cell (k := k) (by rw [List.length_map]; exact hkl))
      obtain ⟨b', o', hA', -, hc'⟩ := hcell
      injection hA' with hA'
      injection hA' with hA1 hA2
      subst hA1 hA2
      have hval : (ms[k]'hkl).1.val = .slice Ai (enc (ms[k]'hkl).2).length ci := by
        have h1 := hc' 0 (ms[k]'hkl).1.val (by simp [cH])
        have h2 : w2.cell? ⟨b, o + k, none⟩ = some (ms[k]'hkl).1.val := by simpa [cH] using h1
        rw [hc] at h2
        exact (Option.some.inj h2).symm
      have hcells : cH.cells (ms[k]'hkl).1 = #[Value.slice Ai (enc (ms[k]'hkl).2).length ci].toList := by simp [cH, hval]
      have HC := Lib.hid hcells
      clear hs hc' hval hcells
      generalize ms[k]'hkl = mk at *
      generalize (enc mk.2).length = m at *
      go_wp2_with fail
      refine HX.out.mono ?_
      rintro e w3 ⟨rfl, hb⟩
      have B3 := Lib.hid (bthen B2.out hb)
      have O3 := Lib.hid (O.out.below hb)
      have hc3 := (hb.cell (p := ⟨b, o + k, none⟩) hbl).trans hc
      have hbl3 : b < w3.heap.size := Nat.lt_of_lt_of_le hbl hb.size
      clear hb hc hbl
      cases hr : hasF (wth ps (ms.take k)) mk.2
      · rw [if_neg (by rw [hr]; decide)] at HTk
        clear hr
        go_wp2_with (at_builtin; refine stopHere ?_)
        refine goHere ?_
        refine ap_one (K := cH) _ ty_fms rfl _ _ rfl (B := w.heap.size) (v := .slice A5 (wth ps (ms.take k)).length c5) (xs := (wth ps (ms.take k)).map (·.1)) rfl O3.out mk.1 HC.out rfl (by rw [List.length_map]; omega) B3.out.size ?_
        intro v4 w4 ho hg1 hb1 hat
        have e4 : (wth ps (ms.take k)).map (·.1) ++ [mk.1] = (wth ps (ms.take (k + 1))).map (·.1) := by rw [HTk.out]; simp
        rw [e4] at ho
        have O4 := Lib.hid ho
        have B4 := Lib.hid (B3.out.trans hb1)
        clear ho hg1 hb1 hat e4
        go_wp2
        go_roundw
        case rel => exact ⟨k + 1, by go_num, by omega, O4.out, B4.out⟩
        case measure => simp [intOf]; omega
      · rw [if_pos hr] at HTk
        clear hr
        go_wp2
        go_roundw
        case rel => exact ⟨k + 1, by go_num, by omega, by rw [HTk.out]; exact O3.out, B3.out⟩
        case measure => simp [intOf]; omega
    · obtain rfl : k = ms.length := by omega
      rw [List.take_length] at R2 ⊢
      clear hk hkl
      go_wp2
      go_ret
      exact ⟨_, rfl, R2.out, B2.out⟩
end Go.Proofs.YtaigiopoogbbbaaGreat

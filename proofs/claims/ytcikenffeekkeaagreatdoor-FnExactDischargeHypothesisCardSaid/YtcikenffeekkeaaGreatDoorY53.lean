/- FnExactDischargeHypothesis: for every name of a system, every list of hypotheses and every list of lines the law returns true, and its arguments read afterwards as before. No condition. -/
import Derived.Test.YtcikenffeekkeaaGreatDoorY51
import Derived.Test.YtcikenffeekkeaaGreatDoorY52
import Derived.Test.YtcikenffeekkeaaGreatDoorY04
import Derived.Test.YtcikenffeekkeaaGreatDoorY39
import Derived.Test.YtcikenffeekkeaaGreatDoorCards
import Derived.Test.YtcikenffeekkeaaGreatDoorTie
import Derived.LaidMore
import Derived.OpenShut
import Derived.Stop.Joined
import Derived.SevenTiedAt
import Derived.OpenVars
namespace Go.Proofs.YtcikenffeekkeaaGreatDoor
namespace lawDischargeHypothesis
open Go.ChangeShapes Go.WideShapes Go.ChangeAt Go.RowKit Go.Joins
open Go.ChangeMaps (open_string shut_string)
set_option linter.unusedVariables false
theorem own : ownKnob Tryz.prog.godebug = none := by kernel_rfl
theorem laidOut : laidOutB Tryz.prog = true := q_laid
theorem laid_list : ([("loop.example/g01089/impl.schemeTexts", DataW.agg (schB.map fun b => DataW.lit (.string b.toList)))] : List (String × DataW Unit)) = Rows.fnExactDischargeHypothesisRow.laid := rfl
/-- the table's cells -/
theorem table {W : World} (h : laidMetH Tryz.prog Rows.fnExactDischargeHypothesisRow.laid W) : TabS W := by
  rw [← laid_list] at h
  rw [MakeChecks.laidMetH_plain _ _ _ (by kernel_rfl)] at h
  obtain ⟨ps, ⟨g, t, cs, fuel, p, q, hg, ht, hv, hd, _, _⟩, _, _⟩ := h
  have hg0 : Tryz.prog.globalNamed "loop.example/g01089/impl.schemeTexts" = some 0 := by kernel_rfl
  obtain rfl := Option.some.inj (hg0.symm.trans hg)
  obtain rfl := Option.some.inj ((show (Tryz.prog.globals[0]?).map (·.type) = some 148 by kernel_rfl).symm.trans ht)
  have cE : Tryz.prog.cellsOf 9 = 1 := by kernel_rfl
  have cA : Tryz.prog.cellsOf 148 = 19 := by kernel_rfl
  obtain ⟨xs, m, _, ex, hlen, hl, hel⟩ := DataW.trod_array Tryz.underlying148 hd
  rw [cA] at hlen
  have e3 := DataW.agg.inj (Prod.mk.inj ex).1
  have hcs : ∀ k, k < 19 → cs[k]? = some (.string (txt (schF k))) := fun k hk => by
    have h1 := hel k hk
    rw [cE, Nat.mul_one, List.getElem?_eq_getElem (by omega)] at h1
    obtain ⟨s, hs, hx, _⟩ := DataW.trod_string Tryz.underlying9 h1
    have hkc : k < cs.toList.length := by omega
    have h2 : (cs.toList.drop k).take 1 = [cs.toList[k]] := by rw [List.drop_eq_getElem_cons hkc]; rfl
    rw [h2] at hs
    have hs := (List.cons.inj hs).1
    have h3 : (xs.map (·.1))[k]? = some (DataW.lit (.string s.data.toList)) := by
      rw [List.getElem?_map, List.getElem?_eq_getElem (by omega), hx]; rfl
    rw [← e3, List.getElem?_map] at h3
    have h4 := schB_txt k hk
    rw [List.getElem?_map] at h4
    cases hb : schB[k]? with
    | none => rw [hb] at h3; cases h3
    | some b =>
      rw [hb] at h3 h4
      have h5 : b.toList = s.data.toList := Lit.string.inj (DataW.lit.inj (Option.some.inj h3))
      have h6 : b = s.data := Array.toList_inj.1 h5
      have h7 : Value.string ⟨b⟩ = Value.string (txt (schF k)) := Option.some.inj h4
      have h8 : cs[k]? = some cs.toList[k] := by
        rw [← Array.getElem?_toList, List.getElem?_eq_getElem hkc]
      rw [h8, hs, ← h7, h6]
  have hcell := fun j => World.var?_cell hg0 hv j
  refine ⟨?_, fun k hk => (hcell k).trans (hcs k hk)⟩
  exact World.block_lt_of_cell? W ⟨0, 0, none⟩ ((hcell 0).trans (hcs 0 (by decide)))
set_option maxRecDepth 100000 in
theorem door_met (os : Os) (args : Array Value) : laidMetH Tryz.prog Rows.fnExactDischargeHypothesisRow.laid ((World.doorLaid Tryz.prog 400 os).forCall (fun _ _ => 0) ⟨#[], args, []⟩).memory :=
  laidMetH_of_parts3 (fuel := 8) (laidMet_of_run' 8 (by kernel_rfl) (by kernel_rfl)) (by kernel_rfl) (by kernel_rfl)
set_option maxRecDepth 100000 in
theorem lifted (os : Os) (started : os.Started) (H : Type) (enc : TypeId × Value → H) :
    ReturnsInHanded {} Tryz.checked os 3 .any (fun w args => (Rows.fnExactDischargeHypothesisSpec.pre enc Tryz.prog Tryz.f3 [] false w args ∧ laidMetH Tryz.prog Rows.fnExactDischargeHypothesisRow.laid w) ∧ sizedMet enc Tryz.prog Tryz.f3 (OpenSpec.ofChange Rows.fnExactDischargeHypothesisSpec) false w args) (Rows.fnExactDischargeHypothesisSpec.post enc Tryz.prog Tryz.f3 false true false false) := by
  refine returnsInHanded_of_change_and (C := Tryz.checked) (X := fun w _ => laidMetH Tryz.prog Rows.fnExactDischargeHypothesisRow.laid w) (fun _ _ _ hh h => h.of_heap hh) own started (by kernel_rfl) Tryz.func3
    (ChangeSpec.witness_shaped (enc := enc) (C := Tryz.checked) (os := os) (X := fun w _ => laidMetH Tryz.prog Rows.fnExactDischargeHypothesisRow.laid w) false (World.doorLaid Tryz.prog 400 os) #[.string ⟨#[]⟩, .slice none 0 0, .slice none 0 0] 8 rfl (World.shaped_of_RefB (by kernel_rfl) (by kernel_rfl)) (by kernel_rfl) (by kernel_rfl) (by kernel_rfl) (door_met os _)) ?_
  intro W base args ds gs before hval0 hW _ _ hL _
  have hval : ∀ (j : Nat) t v, Tryz.f3.params[j]? = some t → args[j]? = some v → Value.okWide Tryz.prog W .any base t v := hval0
  have hW' := hW
  obtain ⟨p, q, hA0, hV, rfl, hfz, hnd⟩ := hW
  have hA : DataW.TrodAll enc Tryz.prog W 0 (fun _ => true) true Tryz.f3.params.toList args.toList ds p := hA0
  rw [Tryz.params3] at hA hval
  obtain ⟨v0, vs0, d0, ds0, p0, q0, hargs, rfl, rfl, h0, r0⟩ := trodAll_cons hA
  obtain ⟨v1, vs1, d1, ds1, p1, q1, rfl, rfl, rfl, h1, r1⟩ := trodAll_cons r0
  obtain ⟨v2, vs2, d2, ds2, p2, q2, rfl, rfl, rfl, h2, r2⟩ := trodAll_cons r1
  obtain ⟨rfl, rfl, rfl⟩ := trodAll_nil r2
  obtain rfl : args = #[v0, v1, v2] := by cases args; simp_all
  have hV0 := hV
  obtain ⟨g9, t9, cs9, fu9, d9, p9, rfl, -, -, -, -, -⟩ := trodVars_one hV0
  have k0 := h0
  have lt0 : ∀ x ∈ p0, x.block < W.heap.size := by obtain ⟨m, hm⟩ := k0; exact DataW.trod_lt m _ _ _ hm
  have k1 := h1
  have lt1 : ∀ x ∈ p1, x.block < W.heap.size := by obtain ⟨m, hm⟩ := k1; exact DataW.trod_lt m _ _ _ hm
  have k2 := h2
  have lt2 : ∀ x ∈ p2, x.block < W.heap.size := by obtain ⟨m, hm⟩ := k2; exact DataW.trod_lt m _ _ _ hm
  obtain ⟨a0, rfl, -, -, -⟩ := open_string Tryz.underlying9 (hval 0 9 v0 rfl rfl) h0
  obtain ⟨A1, n1, c1, rfl⟩ := okWide_slice Tryz.underlying22 (hval 1 22 v1 rfl rfl)
  obtain ⟨fu1, hf1⟩ := h1
  obtain ⟨xs1, hs1⟩ := open_SSN Tryz.underlying22 (by kernel_rfl) Tryz.underlying38 Tryz.underlying77 (by kernel_rfl) (by kernel_rfl) Tryz.underlying2 Tryz.underlying2 hf1
  obtain ⟨A2, n2, c2, rfl⟩ := okWide_slice Tryz.underlying23 (hval 2 23 v2 rfl rfl)
  obtain ⟨fu2, hf2⟩ := h2
  obtain ⟨xs2, hs2⟩ := open_SLn Tryz.underlying23 Tryz.underlying41 (by kernel_rfl) (by kernel_rfl) Tryz.underlying2 Tryz.underlying2 Tryz.underlying2 Tryz.underlying38 Tryz.underlying77 (by kernel_rfl) (by kernel_rfl) Tryz.underlying2 Tryz.underlying2 hf2
  clear hA0 hval0
  refine (final_DischargeHypothesis a0 _ xs1 _ xs2 W (table hL) hs1 hs2).mono fun e W' ⟨he, bel⟩ => ?_
  subst he
  exact ⟨_, rfl, _, _, _, [], _, q, hW', trodAll_mk1 (shut_bool Tryz.underlying4 _), (trodAll_cons_mk (Below.trod laidOut (by kernel_rfl) (of_decide_eq_true (by kernel_rfl)) k0 bel lt0) (trodAll_cons_mk (Below.trod laidOut (by kernel_rfl) (of_decide_eq_true (by kernel_rfl)) k1 bel lt1) (trodAll_cons_mk (Below.trod laidOut (by kernel_rfl) (of_decide_eq_true (by kernel_rfl)) k2 bel lt2) trodAll_mk0))), bel.trodVars laidOut (by kernel_rfl) hV, bel.frame _, fun h => by cases h⟩
set_option maxHeartbeats 4000000 in
set_option maxRecDepth 100000 in
theorem facts : joinedFacts Tryz.pinned.checked.prog 3 Tryz.f3 Rows.fnExactDischargeHypothesisSpec Rows.fnExactDischargeHypothesisRow = true := by
  unfold joinedFacts
  refine and_t (and_t (and_t (and_t (and_t (and_t (and_t (and_t (and_t (and_t (and_t (and_t (and_t (and_t (and_t (and_t (and_t (and_t (and_t (and_t (and_t (and_t (and_t (and_t (and_t (and_t (and_t (and_t (and_t (and_t (and_t ?_ ?_) ?_) ?_) ?_) ?_) ?_) ?_) ?_) ?_) ?_) ?_) ?_) ?_) ?_) ?_) ?_) ?_) ?_) ?_) ?_) ?_) ?_) ?_) ?_) ?_) ?_) ?_) ?_) ?_) ?_) ?_
  · as_aux_lemma => kernel_rfl
  · exact q_laid
  · exact q_maps
  · as_aux_lemma => kernel_rfl
  · as_aux_lemma => kernel_rfl
  · as_aux_lemma => kernel_rfl
  · as_aux_lemma => kernel_rfl
  · as_aux_lemma => kernel_rfl
  · as_aux_lemma => kernel_rfl
  · as_aux_lemma => kernel_rfl
  · as_aux_lemma => kernel_rfl
  · as_aux_lemma => kernel_rfl
  · as_aux_lemma => kernel_rfl
  · as_aux_lemma => kernel_rfl
  · as_aux_lemma => kernel_rfl
  · as_aux_lemma => kernel_rfl
  · as_aux_lemma => kernel_rfl
  · as_aux_lemma => kernel_rfl
  · as_aux_lemma => kernel_rfl
  · as_aux_lemma => kernel_rfl
  · as_aux_lemma => kernel_rfl
  · as_aux_lemma => kernel_rfl
  · exact q_keys
  · as_aux_lemma => kernel_rfl
  · exact q_heard
  · exact q_enter
  · exact q_lift
  · exact q_make
  · as_aux_lemma => kernel_rfl
  · as_aux_lemma => kernel_rfl
  · as_aux_lemma => kernel_rfl
  · as_aux_lemma => kernel_rfl
theorem over : Rows.fnExactDischargeHypothesisRow.holds Tryz.pinned (OpenSpec.ofChange Rows.fnExactDischargeHypothesisSpec) :=
  OpenClaim.holds_of_wide 3 Tryz.f3 rfl rfl rfl rfl rfl rfl rfl ⟨rfl, rfl, rfl, rfl, rfl⟩ rfl rfl rfl rfl rfl (by kernel_rfl) Tryz.func3 facts
    (of_decide_eq_true (by kernel_rfl)) (by unfold Func.isWrapper; first | (rw [if_pos (by decide +kernel)]; kernel_rfl) | (rw [if_neg (by decide +kernel)]; exact ⟨rfl, rfl⟩))
    (fun os started H enc _ => lifted os started H enc)
theorem said : Rows.FnExactDischargeHypothesisSaid := over
set_option maxRecDepth 100000 in
theorem proved : Rows.FnExactDischargeHypothesisCardSaid :=
  Claim7.holds_tied_plain_at .later [] [.data] true Rows.fnExactDischargeHypothesisCard.stood.harness false
    said (fun _ h => by cases h) (by kernel_rfl) (fun _ h => by cases h) fnExactDischargeHypothesis_row_tie rfl ⟨rfl, rfl⟩ (by kernel_rfl) rfl
    (fun f fn hf hfn => by
      obtain rfl : f = 3 := Option.some.inj ((show Tryz.prog.funcNamed "loop.example/g01089/laws.FnExactDischargeHypothesis" = some 3 by kernel_rfl).symm.trans hf) |>.symm
      obtain rfl : fn = Tryz.f3 := (Option.some.inj (Tryz.func3.symm.trans hfn)).symm
      exact ⟨by kernel_rfl, fun j t ht => by
        rw [Tryz.params3] at ht
        have hm : t ∈ [9, 22, 23] := by simpa using Array.mem_of_getElem? ht
        have hall : ([9, 22, 23].all fun u => !Tryz.prog.wantsStandIn u) = true := by kernel_rfl
        exact (show Tryz.prog.wantsStandIn t = false by simpa using List.all_eq_true.1 hall t hm)⟩)
    (by kernel_rfl)
#print axioms proved
end lawDischargeHypothesis
end Go.Proofs.YtcikenffeekkeaaGreatDoor

/- Contracts of chapter 33: ReplaceOuter, both sides. -/
import Derived.Test.Ytgdmfihnbbgcoaa33s
import Derived.Test.Ytgdmfihnbbgcoaa33c
import Derived.Test.YtgdmfihnbbgcoaaNN
namespace Go.Proofs.Ytgdmfihnbbgcoaa
open Go.RowKit
set_option linter.unusedVariables false
set_option linter.unusedSimpArgs false
def roc (xs : List Nd) (yss : List (List Nd)) (s : Int) : Int := if yss.all isF then vcode xs s else 1
theorem all_enc : ∀ (yss : List (List Nd)), yss.all isF = true → ∃ I : List Fm, yss = I.map enc ∧ ∀ g ∈ I, g.ok = true ∧ (enc g).length ≤ 40
  | [], _ => ⟨[], rfl, fun g h => by cases h⟩
  | y :: yss, h => by
    simp only [List.all_cons, Bool.and_eq_true] at h
    obtain ⟨I, rfl, hI⟩ := all_enc yss h.2
    obtain ⟨f, hok, rfl, hl⟩ := (isF_iff _).1 h.1
    exact ⟨f :: I, rfl, fun g hg => by rcases List.mem_cons.1 hg with rfl | hg; exact ⟨hok, hl⟩; exact hI g hg⟩
theorem tot_len {yss : List (List Nd)} {n : Nat} (h : tot yss ≤ n) : yss.length ≤ n ∧ ∀ xs ∈ yss, xs.length ≤ n := by
  have hT : tot yss = yss.length + sumL yss := rfl
  refine ⟨by omega, fun xs hx => ?_⟩
  obtain ⟨i, hi, rfl⟩ := List.mem_iff_getElem.1 hx
  have := sumL_get yss i hi
  omega
theorem repO_short (s : Nat) (r : Fm → Fm) (hr : ∀ g, (enc (r g)).length ≤ 40) : ∀ f : Fm, (enc (repO s r f)).length ≤ 40 * (enc f).length := by
  intro f
  induction f with
  | var t => simp [repO, enc]
  | fls => simp [repO, enc]
  | un k a ih =>
    simp only [repO]
    split
    · have := hr (.un k a); simp only [enc, List.length_cons] at this ⊢; omega
    · simp only [enc, List.length_cons]; omega
  | bin k a b iha ihb => simp only [repO, enc, List.length_cons, List.length_append] at *; omega
theorem ims_short {O I : List Fm} (hI : ∀ g ∈ I, (enc g).length ≤ 40) (g : Fm) : (enc (ims O I g)).length ≤ 40 := by
  unfold ims
  rw [List.getD_eq_getElem?_getD]
  cases h : I[ix O g]? with
  | none => simp [enc]
  | some x => exact hI x (List.mem_of_getElem? h)
theorem impl_ReplaceOuter_bad (v u : Value) (xs : List Nd) (yss : List (List Nd)) (s : Int) (w : World) (h : Sl cN w v xs) (h' : Sl2 cN w u yss) (hl : xs.length ≤ 1048576) (hl' : tot yss ≤ 1048576) (hc : roc xs yss s ≠ 0) :
    Calls Try.prog 14 #[v, .int .i64 s, u] w fun e w' => e = .returned (.tuple #[.slice none 0 0, .int .i64 (roc xs yss s)]) ∧ Below w.heap.size w w' := by
  have H1 := Lib.hid (impl_isFormula v xs w h (by omega))
  have H2 := Lib.hid (fun W (hW : Below w.heap.size w W) => impl_areFormulas u yss W (h'.below hW) (by have := (tot_len hl').1; omega) (tot_len hl').2)
  clear h h'
  cases h1 : isF xs
  · have HE : Hid (roc xs yss s = 1) := Lib.hid (by unfold roc vcode; rw [h1]; split <;> rfl)
    rw [h1] at H1
    clear hc
    go_enter Try.func14, Try.ntmps14
    go_wp2_with fail
    refine H1.out.mono ?_
    rintro e w1 ⟨rfl, hb⟩
    have HB := Lib.hid hb; clear hb
    go_wp2
    go_ret2
    exact ⟨by rw [HE.out]; rfl, HB.out⟩
  · cases h2 : yss.all isF
    · have HE : Hid (roc xs yss s = 1) := Lib.hid (by unfold roc; rw [h2]; rfl)
      rw [h1] at H1
      rw [h2] at H2
      clear hc
      go_enter Try.func14, Try.ntmps14
      go_wp2_with fail
      refine H1.out.mono ?_
      rintro e w1 ⟨rfl, hb⟩
      have HB := Lib.hid hb; clear hb
      go_wp2_with fail
      refine (H2.out _ HB.out).mono ?_
      rintro e w2 ⟨rfl, hb⟩
      have HB2 := Lib.hid (bthen HB.out hb); clear hb
      go_wp2
      go_ret2
      exact ⟨by rw [HE.out]; rfl, HB2.out⟩
    · cases h3 : inR s 0 5
      · have HE : Hid (roc xs yss s = 2) := Lib.hid (by unfold roc vcode; rw [h1, h2, h3]; rfl)
        have H3 := Lib.hid (fun W => impl_isVariable s W)
        rw [h1] at H1
        rw [h2] at H2
        rw [h3] at H3
        clear hc h3
        go_enter Try.func14, Try.ntmps14
        go_wp2_with fail
        refine H1.out.mono ?_
        rintro e w1 ⟨rfl, hb⟩
        have HB := Lib.hid hb; clear hb
        go_wp2_with fail
        refine (H2.out _ HB.out).mono ?_
        rintro e w2 ⟨rfl, hb⟩
        have HB2 := Lib.hid (bthen HB.out hb); clear hb
        go_wp2_with fail
        refine (H3.out _).mono ?_
        rintro e w3 ⟨rfl, rfl⟩
        go_wp2
        go_ret2
        exact ⟨by rw [HE.out]; rfl, HB2.out⟩
      · exact absurd (by unfold roc vcode; rw [h1, h2, h3]; rfl) hc
set_option maxRecDepth 100000 in
theorem impl_ReplaceOuter_good (v u : Value) (f : Fm) (I : List Fm) (s : Nat) (w : World) (h : Sl cN w v (enc f)) (h' : Sl2 cN w u (I.map enc)) (hl : (enc f).length ≤ 40) (hok : f.ok = true) (hs : s ≤ 5) (hI : ∀ g ∈ I, g.ok = true ∧ (enc g).length ≤ 40) (hl' : tot (I.map enc) ≤ 1048576) :
    Calls Try.prog 14 #[v, .int .i64 s, u] w fun e w' => ∃ r, (I.length ≠ (outs s f []).length → e = .returned (.tuple #[r, .int .i64 5]) ∧ Ow cN 89 w.heap.size w' r []) ∧ (I.length = (outs s f []).length → e = .returned (.tuple #[r, .int .i64 (madeC (enc (repO s (ims (outs s f []) I) f)))]) ∧ Ow cN 89 w.heap.size w' r (madeL (enc (repO s (ims (outs s f []) I) f)))) ∧ Below w.heap.size w w' := by
  have e1 : isF (enc f) = true := (isF_iff _).2 ⟨f, hok, rfl, hl⟩
  have e2 : (I.map enc).all isF = true := by
    rw [List.all_eq_true]
    intro x hx
    obtain ⟨g, hg, rfl⟩ := List.mem_map.1 hx
    exact (isF_iff _).2 ⟨g, (hI g hg).1, rfl, (hI g hg).2⟩
  have H1 := Lib.hid (e1 ▸ impl_isFormula v (enc f) w h (by omega))
  have H2 := Lib.hid (fun W (hW : Below w.heap.size w W) => e2 ▸ impl_areFormulas u _ W (h'.below hW) (by have := (tot_len hl').1; omega) (tot_len hl').2)
  have H3 := Lib.hid (fun W => impl_isVariable s W)
  rw [show inR (s : Int) 0 5 = true from inR_iff.2 ⟨by omega, by omega⟩] at H3
  have H4 := Lib.hid (fun W (hW : Below w.heap.size w W) => impl_outerParts f s v W (h.below hW) hok (by omega) hs)
  obtain ⟨Ai, ci, rfl⟩ := h'.opn
  have hIl : I.length ≤ 1048576 := by have := (tot_len hl').1; rw [List.length_map] at this; exact this
  have H5 := Lib.hid (fun Ao co W (hW : Below w.heap.size w W) (sO : Sl2 cN W (.slice Ao (outs s f []).length co) ((outs s f []).map enc)) (hIO : I.length = (outs s f []).length) => impl_replaceOuter f s (outs s f []) I Ai Ao ci co v W (h.below hW) hok (by omega) hs sO (by have := h'.below hW; rwa [List.length_map] at this) hIO (fun g hg => ix_outs hg)
    (by have := outs_length s f; have := occs_count s f; omega) (fun x hx => by have := (occs_len (outs_mem hx)).2; omega) (fun x hx => by have := (hI x hx).2; omega))
  have HOL : Hid ((outs s f []).length ≤ 1000) := Lib.hid (by have := outs_length s f; have := occs_count s f; omega)
  have HRL : Hid (∀ O, (enc (repO s (ims O I) f)).length ≤ 1600) := Lib.hid fun O => by have := repO_short s (ims O I) (ims_short fun g hg => (hI g hg).2) f; omega
  rw [List.length_map] at H2 ⊢
  clear h h' e1 e2 hI hl'
  generalize outs s f [] = O at *
  go_enter Try.func14, Try.ntmps14
  go_wp2_with fail
  refine H1.out.mono ?_
  rintro e w1 ⟨rfl, hb⟩
  have HB := Lib.hid hb; clear hb
  go_wp2_with fail
  refine (H2.out _ HB.out).mono ?_
  rintro e w2 ⟨rfl, hb⟩
  have HB2 := Lib.hid (bthen HB.out hb); clear hb
  go_wp2_with fail
  refine (H3.out _).mono ?_
  rintro e w3 ⟨rfl, rfl⟩
  go_wp2_with fail
  refine (H4.out _ HB2.out).mono ?_
  rintro e w4 ⟨uo, hs4, rfl, ho, hH, hb⟩
  have hs2 : Sl2 cN w4 uo (O.map enc) := (hH.below hb).sl2 ho.sl
  obtain ⟨Ao, co, rfl⟩ := hs2.opn
  rw [List.length_map] at hs2 ⊢
  have HB4 := Lib.hid (bthen HB2.out hb)
  have HS4 := Lib.hid hs2
  clear ho hH hb hs2
  by_cases hn : O.length = I.length
  · have HN := Lib.hid hn
    have HR := Lib.hid (H5.out Ao co w4 HB4.out HS4.out hn.symm)
    clear hn
    have hn' : ((O.length : Int) != (I.length : Int)) = false := by rw [HN.out]; simp
    rw [← HN.out] at HR ⊢
    go_wp2_with fail
    refine HR.out.mono ?_
    rintro e w5 ⟨u5, rfl, hs5, hb5⟩
    have HC := Lib.hid (impl_clone u5 _ w5 hs5 (by have := HRL.out O; omega))
    have HB5 := Lib.hid (bthen HB4.out hb5)
    clear hs5 hb5
    go_wp2_with fail
    refine HC.out.mono ?_
    rintro e w6 ⟨u6, rfl, ho6, hb6⟩
    have HL := Lib.hid (impl_limited u6 _ _ w6 (ho6.mono HB5.out.size))
    have HB6 := Lib.hid (bthen HB5.out hb6)
    clear ho6 hb6
    go_wp2_with fail
    refine HL.out.mono ?_
    rintro e w7 ⟨u7, rfl, ho7, rfl⟩
    have HO7 := Lib.hid ho7
    clear ho7
    go_wp2
    go_ret2
    exact ⟨_, fun h => absurd HN.out.symm h, fun _ => ⟨rfl, HO7.out⟩, HB6.out⟩
  · have HN : Hid (I.length ≠ O.length) := Lib.hid fun e => hn e.symm
    have hn' : ((O.length : Int) != (I.length : Int)) = true := by simp; omega
    clear hn
    go_wp2
    go_ret2
    exact ⟨_, fun _ => ⟨rfl, Ow.nil _ _⟩, fun h => absurd h HN.out, HB4.out⟩
/-- the code behind j images -/
def roj (xs : List Nd) (yss : List (List Nd)) (s : Int) (j : Nat) : Int := roc xs (yss.take j) s
theorem roj_succ (xs : List Nd) (yss : List (List Nd)) (s : Int) (j : Nat) (h : j < yss.length) : roj xs yss s (j + 1) = if isF (yss[j]'h) then roj xs yss s j else 1 := by
  unfold roj roc
  rw [List.take_succ_eq_append_getElem h, List.all_append]
  simp only [List.all_cons, List.all_nil, Bool.and_true]
  cases isF (yss[j]'h) <;> simp
theorem roj_zero (xs : List Nd) (yss : List (List Nd)) (s : Int) : roj xs yss s 0 = vcode xs s := by simp [roj, roc]
theorem roj_end (xs : List Nd) (yss : List (List Nd)) (s : Int) : roj xs yss s yss.length = roc xs yss s := by rw [roj, List.take_length]
/-- the walk to the end of the loop over the images -/
theorem spec_ReplaceOuter_bad (v u : Value) (xs : List Nd) (yss : List (List Nd)) (s : Int) (w : World) (h : Sl cN w v xs) (h' : Sl2 cN w u yss) (hl : xs.length ≤ 1048576) (hl' : tot yss ≤ 1048576) (hc : roc xs yss s ≠ 0) :
    Calls Try.prog 11 #[v, .int .i64 s, u] w fun e w' => e = .returned (.tuple #[.slice none 0 0, .int .i64 (roc xs yss s)]) ∧ Below w.heap.size w w' := by
  obtain ⟨A, c, rfl⟩ := h'.opn
  have H1 := Lib.hid (spec_l33Code v xs s w h hl)
  have hyl := (tot_len hl').1
  have HY := Lib.hid (tot_len hl').2
  have H2 := Lib.hid h'
  have H0 := Lib.hid (roj_zero xs yss s)
  have HE := Lib.hid (roj_end xs yss s)
  have HC := Lib.hid hc
  have HS := Lib.hid (fun j (h : j < yss.length) => roj_succ xs yss s j h)
  rw [← H0.out] at H1
  clear h h' hc hl'
  go_enter Try.func11, Try.ntmps11
  go_wp2_with fail
  refine H1.out.mono ?_
  rintro e w1 ⟨rfl, rfl⟩
  go_wp2
  go_loop [8, 9] (fun q i => ∃ j : Nat, j ≤ yss.length ∧ i = .int .i64 j ∧ q = .int .i64 (roj xs yss s j)) (fun _ i => yss.length - (intOf i).toNat)
  case atStart => exact ⟨0, Nat.zero_le _, rfl, rfl⟩
  case round =>
    obtain ⟨j, hj, rfl, rfl⟩ := hrel
    by_cases hlt : j < yss.length
    · obtain ⟨b, o, Ai, ci, rfl, hbl, hc0, hs⟩ := H2.out.atM hlt
      have HI := Lib.hid (spec_l02Is _ _ _ hs (by have := HY.out _ (List.getElem_mem hlt); omega))
      have HSj := Lib.hid (HS.out j hlt)
      obtain ⟨m, hm⟩ : ∃ m, (yss[j]'hlt).length = m := ⟨_, rfl⟩
      obtain ⟨z, hz⟩ : ∃ z, isF (yss[j]'hlt) = z := ⟨_, rfl⟩
      obtain ⟨y, hy⟩ : ∃ y, roj xs yss s j = y := ⟨_, rfl⟩
      rw [hz] at HI
      rw [hz, hy] at HSj
      rw [hm] at HI hc0
      rw [hy]
      clear hs hm hz hy
      cases z
      all_goals
        go_wp2_with fail
        refine HI.out.mono ?_
        rintro e w2 ⟨rfl, rfl⟩
        go_wp2
        go_round
        case rel => exact ⟨j + 1, by omega, by go_num, by rw [HSj.out]; simp⟩
        case measure => simp [intOf]; omega
    · obtain rfl : j = yss.length := by omega
      have hc' := HC.out
      rw [HE.out]
      obtain ⟨y, hy⟩ : ∃ y, roc xs yss s = y := ⟨_, rfl⟩
      rw [hy] at hc' ⊢
      have hc2 : (y != 0) = true := by simpa using hc'
      have HYY := Lib.hid hy
      clear hy hc'
      go_wp2
      go_ret2
      exact ⟨by rw [HYY.out]; rfl, Below.refl _ _⟩
set_option maxRecDepth 100000 in
theorem spec_ReplaceOuter_good (v u : Value) (f : Fm) (I : List Fm) (s : Nat) (w : World) (h : Sl cN w v (enc f)) (h' : Sl2 cN w u (I.map enc)) (hl : (enc f).length ≤ 40) (hok : f.ok = true) (hs : s ≤ 5) (hI : ∀ g ∈ I, g.ok = true ∧ (enc g).length ≤ 40) (hl' : tot (I.map enc) ≤ 1048576) :
    Calls Try.prog 11 #[v, .int .i64 s, u] w fun e w' => ∃ r, (I.length ≠ (outs s f []).length → e = .returned (.tuple #[r, .int .i64 5]) ∧ Ow cN 89 w.heap.size w' r []) ∧ (I.length = (outs s f []).length → e = .returned (.tuple #[r, .int .i64 (madeC (enc (repO s (ims (outs s f []) I) f)))]) ∧ Ow cN 89 w.heap.size w' r (madeL (enc (repO s (ims (outs s f []) I) f)))) ∧ Below w.heap.size w w' := by
  have e1 : isF (enc f) = true := (isF_iff _).2 ⟨f, hok, rfl, hl⟩
  have e2 : ∀ x ∈ I.map enc, isF x = true := fun x hx => by
    obtain ⟨g, hg, rfl⟩ := List.mem_map.1 hx
    exact (isF_iff _).2 ⟨g, (hI g hg).1, rfl, (hI g hg).2⟩
  have hcode : vcode (enc f) s = 0 := vcode_ok e1 hs
  have H1 := Lib.hid (hcode ▸ spec_l33Code v (enc f) s w h (by omega))
  have HY := Lib.hid (tot_len hl').2
  obtain ⟨Ai, ci, rfl⟩ := h'.opn
  have hIl : I.length ≤ 1048576 := by have := (tot_len hl').1; rw [List.length_map] at this; exact this
  have HOut := Lib.hid (fun (uh : Value) W (hW : Below w.heap.size w W) (hO : Ow cH 26 w.heap.size W uh []) => spec_l33Outer s f v uh [] [] w W w.heap.size h hW (Nat.le_refl _) hW.size hO Hs.nil (by have := occs_count s f; simp; omega) (by omega) (fun x hx => by cases hx))
  have HRep := Lib.hid (fun Ao co W (hW : Below w.heap.size w W) (sO : Sl2 cN W (.slice Ao (outs s f []).length co) ((outs s f []).map enc)) (hIO : I.length = (outs s f []).length) => spec_l33Replace s (outs s f []) I hIO (by have := outs_length s f; have := occs_count s f; omega) (fun x hx => by have := (occs_len (outs_mem hx)).2; omega) (fun x hx => by have := (hI x hx).2; omega) f v Ao Ai co ci W (h.below hW) (by omega) sO (by have := h'.below hW; rwa [List.length_map] at this) (fun g hg => ix_outs hg))
  have HRL : Hid (∀ O, (enc (repO s (ims O I) f)).length ≤ 1600) := Lib.hid fun O => by have := repO_short s (ims O I) (ims_short fun g hg => (hI g hg).2) f; omega
  have HIS := Lib.hid (fun j (hj : j < (I.map enc).length) => e2 _ (List.getElem_mem hj))
  have H2 := Lib.hid h'
  rw [List.length_map] at H2 ⊢
  have HLM : Hid ((I.map enc).length = I.length) := Lib.hid (List.length_map _)
  clear h h' e1 e2 hI hl' hcode
  generalize outs s f [] = O at *
  go_enter Try.func11, Try.ntmps11
  go_wp2_with fail
  refine H1.out.mono ?_
  rintro e w1 ⟨rfl, rfl⟩
  go_wp2
  go_loop [8, 9] (fun q i => ∃ j : Nat, j ≤ I.length ∧ i = .int .i64 j ∧ q = .int .i64 0) (fun _ i => I.length - (intOf i).toNat)
  case atStart => exact ⟨0, Nat.zero_le _, rfl, rfl⟩
  case round =>
    obtain ⟨j, hj, rfl, rfl⟩ := hrel
    by_cases hlt : j < I.length
    · have hlt' : j < (I.map enc).length := by rw [HLM.out]; exact hlt
      obtain ⟨b, o, A2, c2, rfl, hbl, hc0, hs2⟩ := (H2.out).atM hlt'
      have HI := Lib.hid (HIS.out j hlt' ▸ spec_l02Is _ _ _ hs2 (by have := HY.out _ (List.getElem_mem hlt'); omega))
      obtain ⟨m, hm⟩ : ∃ m, ((I.map enc)[j]'hlt').length = m := ⟨_, rfl⟩
      rw [hm] at HI hc0
      clear hs2 hm
      go_wp2_with fail
      refine HI.out.mono ?_
      rintro e w2 ⟨rfl, rfl⟩
      go_wp2
      go_round
      case rel => exact ⟨j + 1, by omega, by go_num, rfl⟩
      case measure => simp [intOf]; omega
    · obtain rfl : j = I.length := by omega
      have hb0 := below_alloc' w (.cells #[] 26)
      have HO0 := Lib.hid (HOut.out (.slice (some ⟨w.heap.size, 0, none⟩) 0 0) _ hb0 (Ow.lit (K := cH) [] rfl rfl (Nat.le_refl _)))
      have HB0 := Lib.hid hb0
      clear hb0
      go_wp2_with fail
      refine HO0.out.mono ?_
      rintro e w2 ⟨uo, hs2, rfl, ho, hH, hb⟩
      have hbb := HB0.out.trans hb
      have hs3 : Sl2 cN w2 uo (O.map enc) := (hH.below hbb).sl2 ho.sl
      obtain ⟨Ao, co, rfl⟩ := hs3.opn
      rw [List.length_map] at hs3 ⊢
      have HB4 := Lib.hid hbb
      have HS4 := Lib.hid hs3
      clear ho hH hb hs3 hbb
      by_cases hn : O.length = I.length
      · have HN := Lib.hid hn
        have HR := Lib.hid (HRep.out Ao co w2 HB4.out HS4.out hn.symm)
        clear hn
        rw [← HN.out] at HR ⊢
        go_wp2_with fail
        refine HR.out.mono ?_
        rintro e w5 ⟨u5, rfl, ho5, hb5⟩
        have HL := Lib.hid (spec_l02Made u5 _ _ w5 (ho5.mono HB4.out.size))
        have HB5 := Lib.hid (bthen HB4.out hb5)
        clear ho5 hb5
        go_wp2_with fail
        refine HL.out.mono ?_
        rintro e w7 ⟨u7, rfl, ho7, rfl⟩
        have HO7 := Lib.hid ho7
        clear ho7
        go_wp2
        go_ret2
        exact ⟨_, fun h => absurd HN.out.symm h, fun _ => ⟨rfl, HO7.out⟩, HB5.out⟩
      · have HN : Hid (I.length ≠ O.length) := Lib.hid fun e => hn e.symm
        have hn' : ((O.length : Int) != (I.length : Int)) = true := by simp; omega
        clear hn
        go_wp2
        go_ret2
        exact ⟨_, fun _ => ⟨rfl, Ow.nil _ _⟩, fun h => absurd h HN.out, HB4.out⟩
end Go.Proofs.Ytgdmfihnbbgcoaa

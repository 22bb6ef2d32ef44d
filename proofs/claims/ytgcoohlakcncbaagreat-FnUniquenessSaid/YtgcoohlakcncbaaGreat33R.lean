/- Contracts of chapter 33: ReplaceOuter, both sides. -/
import Derived.Test.YtgcoohlakcncbaaGreat33s
import Derived.Test.YtgcoohlakcncbaaGreatM3
import Derived.Test.YtgcoohlakcncbaaGreatNN
namespace Go.Proofs.YtgcoohlakcncbaaGreat
open Go.RowKit
set_option linter.unusedVariables false
set_option linter.unusedSimpArgs false
def roc (xs : List Nd) (yss : List (List Nd)) (s : Int) : Int := if yss.all isF then vcode xs s else 1
theorem all_enc : ∀ (yss : List (List Nd)), yss.all isF = true → ∃ I : List Fm, yss = I.map enc ∧ ∀ g ∈ I, g.ok = true ∧ (enc g).length ≤ 40
  | [], _ => ⟨[], rfl, fun g h => by cases h⟩
  | y :: yss, h => by
    simp only [List.all_cons, Bool.and_eq_true] at h
    obtain ⟨I, rfl, hI⟩ := all_enc yss h.2
    obtain ⟨f, hok, rfl, hl⟩ := (isF_iff _).1 h.1
    exact ⟨f :: I, rfl, fun g hg => by rcases List.mem_cons.1 hg with rfl | hg; exact ⟨hok, hl⟩; exact hI g hg⟩
theorem tot_len {yss : List (List Nd)} {n : Nat} (h : tot yss ≤ n) : yss.length ≤ n ∧ ∀ xs ∈ yss, xs.length ≤ n := by
  have hT : tot yss = yss.length + sumL yss := rfl
  refine ⟨by omega, fun xs hx => ?_⟩
  obtain ⟨i, hi, rfl⟩ := List.mem_iff_getElem.1 hx
  have := sumL_get yss i hi
  omega
theorem repO_short (s : Nat) (r : Fm → Fm) (hr : ∀ g, (enc (r g)).length ≤ 40) : ∀ f : Fm, (enc (repO s r f)).length ≤ 40 * (enc f).length := by
  intro f
  induction f with
  | var t => simp [repO, enc]
  | fls => simp [repO, enc]
  | un k a ih =>
    simp only [repO]
    split
    · have := hr (.un k a); simp only [enc, List.length_cons] at this ⊢; omega
    · simp only [enc, List.length_cons]; omega
  | bin k a b iha ihb => simp only [repO, enc, List.length_cons, List.length_append] at *; omega
theorem ims_short {O I : List Fm} (hI : ∀ g ∈ I, (enc g).length ≤ 40) (g : Fm) : (enc (ims O I g)).length ≤ 40 := by
  unfold ims
  rw [List.getD_eq_getElem?_getD]
  cases h : I[ix O g]? with
  | none => simp [enc]
  | some x => exact hI x (List.mem_of_getElem? h)
theorem impl_ReplaceOuter_bad (v u : Value) (xs : List Nd) (yss : List (List Nd)) (s : Int) (w : World) (h : Sl cN w v xs) (h' : Sl2 cN w u yss) (hl : xs.length ≤ 1048576) (hl' : tot yss ≤ 1048576) (hc : roc xs yss s ≠ 0) :
    Calls Tryz.prog 26 #[v, .int .i64 s, u] w fun e w' => e = .returned (.tuple #[.slice none 0 0, .int .i64 (roc xs yss s)]) ∧ Below w.heap.size w w' := by
  have H1 := Lib.hid (impl_isFormula v xs w h (by omega))
  have H2 := Lib.hid (fun W (hW : Below w.heap.size w W) => impl_areFormulas u yss W (h'.below hW) (by have := (tot_len hl').1; omega) (tot_len hl').2)
  clear h h'
  cases h1 : isF xs
  · have HE : Hid (roc xs yss s = 1) := Lib.hid (by unfold roc vcode; rw [h1]; split <;> rfl)
    rw [h1] at H1
    clear hc
    go_enter Tryz.func26, Tryz.ntmps26
    go_wp2_with fail
    refine H1.out.mono ?_
    rintro e w1 ⟨rfl, hb⟩
    have HB := Lib.hid hb; clear hb
    go_wp2
    go_ret2
    exact ⟨by rw [HE.out]; rfl, HB.out⟩
  · cases h2 : yss.all isF
    · have HE : Hid (roc xs yss s = 1) := Lib.hid (by unfold roc; rw [h2]; rfl)
      rw [h1] at H1
      rw [h2] at H2
      clear hc
      go_enter Tryz.func26, Tryz.ntmps26
      go_wp2_with fail
      refine H1.out.mono ?_
      rintro e w1 ⟨rfl, hb⟩
      have HB := Lib.hid hb; clear hb
      go_wp2_with fail
      refine (H2.out _ HB.out).mono ?_
      rintro e w2 ⟨rfl, hb⟩
      have HB2 := Lib.hid (bthen HB.out hb); clear hb
      go_wp2
      go_ret2
      exact ⟨by rw [HE.out]; rfl, HB2.out⟩
    · cases h3 : inR s 0 5
      · have HE : Hid (roc xs yss s = 2) := Lib.hid (by unfold roc vcode; rw [h1, h2, h3]; rfl)
        have H3 := Lib.hid (fun W => impl_isVariable s W)
        rw [h1] at H1
        rw [h2] at H2
        rw [h3] at H3
        clear hc h3
        go_enter Tryz.func26, Tryz.ntmps26
        go_wp2_with fail
        refine H1.out.mono ?_
        rintro e w1 ⟨rfl, hb⟩
        have HB := Lib.hid hb; clear hb
        go_wp2_with fail
        refine (H2.out _ HB.out).mono ?_
        rintro e w2 ⟨rfl, hb⟩
        have HB2 := Lib.hid (bthen HB.out hb); clear hb
        go_wp2_with fail
        refine (H3.out _).mono ?_
        rintro e w3 ⟨rfl, rfl⟩
        go_wp2
        go_ret2
        exact ⟨by rw [HE.out]; rfl, HB2.out⟩
      · exact absurd (by unfold roc vcode; rw [h1, h2, h3]; rfl) hc
set_option maxRecDepth 100000 in
theorem impl_ReplaceOuter_good (v u : Value) (f : Fm) (I : List Fm) (s : Nat) (w : World) (h : Sl cN w v (enc f)) (h' : Sl2 cN w u (I.map enc)) (hl : (enc f).length ≤ 40) (hok : f.ok = true) (hs : s ≤ 5) (hI : ∀ g ∈ I, g.ok = true ∧ (enc g).length ≤ 40) (hl' : tot (I.map enc) ≤ 1048576) :
    Calls Tryz.prog 26 #[v, .int .i64 s, u] w fun e w' => ∃ r, (I.length ≠ (outs s f []).length → e = .returned (.tuple #[r, .int .i64 5]) ∧ Ow cN 82 w.heap.size w' r []) ∧ (I.length = (outs s f []).length → e = .returned (.tuple #[r, .int .i64 (madeC (enc (repO s (ims (outs s f []) I) f)))]) ∧ Ow cN 82 w.heap.size w' r (madeL (enc (repO s (ims (outs s f []) I) f)))) ∧ Below w.heap.size w w' := by
  have e1 : isF (enc f) = true := (isF_iff _).2 ⟨f, hok, rfl, hl⟩
  have e2 : (I.map enc).all isF = true := by
    rw [List.all_eq_true]
    intro x hx
    obtain ⟨g, hg, rfl⟩ := List.mem_map.1 hx
    exact (isF_iff _).2 ⟨g, (hI g hg).1, rfl, (hI g hg).2⟩
  have H1 := Lib.hid (e1 ▸ impl_isFormula v (enc f) w h (by omega))
  have H2 := Lib.hid (fun W (hW : Below w.heap.size w W) => e2 ▸ impl_areFormulas u _ W (h'.below hW) (by have := (tot_len hl').1; omega) (tot_len hl').2)
  have H3 := Lib.hid (fun W => impl_isVariable s W)
  rw [show inR (s : Int) 0 5 = true from inR_iff.2 ⟨by omega, by omega⟩] at H3
  have H4 := Lib.hid (fun W (hW : Below w.heap.size w W) => impl_outerParts f s v W (h.below hW) hok (by omega) hs)
  obtain ⟨Ai, ci, rfl⟩ := h'.opn
  have hIl : I.length ≤ 1048576 := by have := (tot_len hl').1; rw [List.length_map] at this; exact this
  have H5 := Lib.hid (fun Ao co W (hW : Below w.heap.size w W) (sO : Sl2 cN W (.slice Ao (outs s f []).length co) ((outs s f []).map enc)) (hIO : I.length = (outs s f []).length) => impl_replaceOuter f s (outs s f []) I Ai Ao ci co v W (h.below hW) hok (by omega) hs sO (by have := h'.below hW; rwa [List.length_map] at this) hIO (fun g hg => ix_outs hg)
    (by have := outs_length s f; have := occs_count s f; omega) (fun x hx => by have := (occs_len (outs_mem hx)).2; omega) (fun x hx => by have := (hI x hx).2; omega))
  have HOL : Hid ((outs s f []).length ≤ 1000) := Lib.hid (by have := outs_length s f; have := occs_count s f; omega)
  have HRL : Hid (∀ O, (enc (repO s (ims O I) f)).length ≤ 1600) := Lib.hid fun O => by have := repO_short s (ims O I) (ims_short fun g hg => (hI g hg).2) f; omega
  rw [List.length_map] at H2 ⊢
  clear h h' e1 e2 hI hl'
  generalize outs s f [] = O at *
  go_enter Tryz.func26, Tryz.ntmps26
  go_wp2_with fail
  refine H1.out.mono ?_
  rintro e w1 ⟨rfl, hb⟩
  have HB := Lib.hid hb; clear hb
  go_wp2_with fail
  refine (H2.out _ HB.out).mono ?_
  rintro e w2 ⟨rfl, hb⟩
  have HB2 := Lib.hid (bthen HB.out hb); clear hb
  go_wp2_with fail
  refine (H3.out _).mono ?_
  rintro e w3 ⟨rfl, rfl⟩
  go_wp2_with fail
  refine (H4.out _ HB2.out).mono ?_
  rintro e w4 ⟨uo, hs4, rfl, ho, hH, hb⟩
  have hs2 : Sl2 cN w4 uo (O.map enc) := (hH.below hb).sl2 ho.sl
  obtain ⟨Ao, co, rfl⟩ := hs2.opn
  rw [List.length_map] at hs2 ⊢
  have HB4 := Lib.hid (bthen HB2.out hb)
  have HS4 := Lib.hid hs2
  clear ho hH hb hs2
  by_cases hn : O.length = I.length
  · have HN := Lib.hid hn
    have HR := Lib.hid (H5.out Ao co w4 HB4.out HS4.out hn.symm)
    clear hn
    have hn' : ((O.length : Int) != (I.length : Int)) = false := by rw [HN.out]; simp
    rw [← HN.out] at HR ⊢
    go_wp2_with fail
    refine HR.out.mono ?_
    rintro e w5 ⟨u5, rfl, hs5, hb5⟩
    have HC := Lib.hid (impl_clone u5 _ w5 hs5 (by have := HRL.out O; omega))
    have HB5 := Lib.hid (bthen HB4.out hb5)
    clear hs5 hb5
    go_wp2_with fail
    refine HC.out.mono ?_
    rintro e w6 ⟨u6, rfl, ho6, hb6⟩
    have HL := Lib.hid (impl_limited u6 _ _ w6 (ho6.mono HB5.out.size))
    have HB6 := Lib.hid (bthen HB5.out hb6)
    clear ho6 hb6
    go_wp2_with fail
    refine HL.out.mono ?_
    rintro e w7 ⟨u7, rfl, ho7, rfl⟩
    have HO7 := Lib.hid ho7
    clear ho7
    go_wp2
    go_ret2
    exact ⟨_, fun h => absurd HN.out.symm h, fun _ => ⟨rfl, HO7.out⟩, HB6.out⟩
  · have HN : Hid (I.length ≠ O.length) := Lib.hid fun e => hn e.symm
    have hn' : ((O.length : Int) != (I.length : Int)) = true := by simp; omega
    clear hn
    go_wp2
    go_ret2
    exact ⟨_, fun _ => ⟨rfl, Ow.nil _ _⟩, fun h => absurd h HN.out, HB4.out⟩
end Go.Proofs.YtgcoohlakcncbaaGreat

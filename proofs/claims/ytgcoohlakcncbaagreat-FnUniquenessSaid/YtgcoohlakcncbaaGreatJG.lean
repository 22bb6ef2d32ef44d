/- Joined of several texts: M33U, 33I, 33J. -/
import Derived.Test.YtgcoohlakcncbaaGreatJF
import Derived.Test.YtgcoohlakcncbaaGreatJC
import Derived.Test.YtgcoohlakcncbaaGreatN34
import Derived.Test.YtgcoohlakcncbaaGreatJD
import Derived.Test.YtgcoohlakcncbaaGreat33ww
import Derived.Test.YtgcoohlakcncbaaGreatB7
import Derived.Test.YtgcoohlakcncbaaGreat34c
import Derived.Test.YtgcoohlakcncbaaGreat33GG
import Derived.Test.YtgcoohlakcncbaaGreat33R
namespace Go.Proofs.YtgcoohlakcncbaaGreat
open Go.RowKit
set_option linter.unusedVariables false
set_option linter.unusedSimpArgs false
/- Plain laws of the uniqueness formula, the decision of GL, and of outer parts put back. -/
theorem thB_of {fs gs : List Fm} (hok : ∀ f ∈ fs ++ gs, f.ok = true) (h : ∀ (W : Type) (Q : W → W → Prop), GLM Q → ∀ V x, (∀ f ∈ fs, sat Q V f x) → ∃ f ∈ gs, sat Q V f x) : thB fs gs = true :=
  thB_iff.2 (ThmT.of (elF_cl hok) (fun f hf => elF_self hok (List.mem_append_left _ hf)) (fun f hf => elF_self hok (List.mem_append_right _ hf)) h)
theorem thB_valid {fs gs : List Fm} (hok : ∀ f ∈ fs ++ gs, f.ok = true) (h : thB fs gs = true) {W : Type} {Q : W → W → Prop} (hQ : GLM Q) (V : Nat → W → Prop) (x : W) (hl : ∀ f ∈ fs, sat Q V f x) : ∃ f ∈ gs, sat Q V f x :=
  (thB_iff.1 h).valid (elF_cl hok) (fun f hf => elF_self hok (List.mem_append_left _ hf)) (fun f hf => elF_self hok (List.mem_append_right _ hf)) hQ V x hl
def uqE (f : Fm) (s : Nat) : Fm := .bin .and (.bin .imp (.var s) f) (.bin .imp f (.var s))
def uqF (f : Fm) (s t : Nat) : Fm := .bin .imp (.un .box (.bin .and (uqE f s) ((uqE f s).sub s (.var t)))) (.un .box (.bin .imp (.var s) (.var t)))
theorem uqE_enc (f : Fm) (s : Nat) : enc (uqE f s) = unE (enc f) s := by
  simp [uqE, unE, eqL, enc, BK.i]
theorem uqF_enc {f : Fm} {s t : Nat} (hf : f.ok = true) (hs : s ≤ 5) : enc (uqF f s t) = unL (enc f) s t := by
  have hE : (uqE f s).ok = true := by simp [uqE, Fm.ok, hf, hs]
  have h := repL_enc (uqE f s) s (.var t) hs hE
  rw [uqE_enc] at h
  have h' : enc ((uqE f s).sub s (.var t)) = unG (enc f) s t := h.symm
  simp [uqF, unL, enc, h', uqE_enc, BK.i, UK.i]
theorem uqF_ok {f : Fm} {s t : Nat} (hf : f.ok = true) (hs : s ≤ 5) (ht : t ≤ 5) : (uqF f s t).ok = true := by
  have hE : (uqE f s).ok = true := by simp [uqE, Fm.ok, hf, hs]
  have h := sub_ok (s := s) hE (show (Fm.var t).ok = true by simp [Fm.ok, ht])
  simp [uqF, Fm.ok, hE, h, hs, ht]
theorem uqF_thm {f : Fm} {s t : Nat} (hf : f.ok = true) (hs : s ≤ 5) (ht : t ≤ 5) (hg : gd f s = true) (ho : f.occ t = false) (hst : ¬ t = s) : thB [] [uqF f s t] = true :=
  thB_of (fun g hg => by rw [List.mem_singleton.1 hg]; exact uqF_ok hf hs ht) fun W Q hQ V x _ => ⟨_, List.mem_singleton.2 rfl, uniq_valid hQ V hg ho hst x⟩
theorem repO_id {s : Nat} {f : Fm} : repO s (fun g => g) f = f := by
  induction f with
  | var t => rfl
  | fls => rfl
  | bin k a b iha ihb => rw [repO, iha, ihb]
  | un k a ih => rw [repO]; split <;> rfl
theorem repO_self (s : Nat) (f : Fm) : repO s (ims (outs s f []) (outs s f [])) f = f := by
  rw [repO_congr (r' := fun g => g) fun g hg => ?_, repO_id]
  have h := ix_at (ix_outs hg)
  exact enc_eqT h
/- Small contracts of laws on chapter 33: say5, read5 with its own row, IsGuarded of both sides, lists of formulas. -/
theorem laws_say5 (f : Fm) (v : Value) (w : World) (h : Sl cN w v (enc f)) (hl : (enc f).length ≤ 40) (hok : f.ok = true) :
    Calls Tryz.prog 20 #[v] w fun e w' => e = .returned (.string (txt f)) ∧ Below w.heap.size w w' := by
  have e1 : isF (enc f) = true := (isF_iff _).2 ⟨f, hok, rfl, hl⟩
  have HI := Lib.hid (e1 ▸ spec_l02Is v (enc f) w h (by omega))
  have HT := Lib.hid (spec_l02Text f v w h (by omega) hok)
  have HF : Hid (Calls Tryz.prog 90 #[v] w fun e w' => e = .returned (.tuple #[.string (txt f), .int .i64 0]) ∧ Below w.heap.size w w') := by
    refine Lib.hid ?_
    obtain ⟨A, c, rfl⟩ := h.opn
    clear h hl hok e1
    go_enter Tryz.func90, Tryz.ntmps90
    go_wp2_with fail
    refine HI.out.mono ?_
    rintro e w1 ⟨rfl, rfl⟩
    go_wp2_with fail
    refine HT.out.mono ?_
    rintro e w1 ⟨rfl, hb⟩
    have B := Lib.hid hb
    clear hb
    go_wp2
    refine bodyPost_ret (v := .tuple #[.string (txt f), .int .i64 0]) (by simp [results, Tryz.results90, go_sem]) rfl ⟨rfl, B.out⟩
  clear h hl hok e1 HI HT
  go_enter Tryz.func20, Tryz.ntmps20
  go_wp2_with fail
  refine HF.out.mono ?_
  rintro e w1 ⟨rfl, hb⟩
  have B := Lib.hid hb
  clear hb
  go_wp2
  go_ret
  exact ⟨rfl, B.out⟩
theorem laws_read5O (f : Fm) (w : World) (hok : f.ok = true) (hl : (enc f).length ≤ 40) :
    Calls Tryz.prog 25 #[.string (txt f)] w fun e w' => ∃ A k, e = .returned (.slice A (enc f).length k) ∧ Ow cN 82 w.heap.size w' (.slice A (enc f).length k) (enc f) ∧ Below w.heap.size w w' := by
  have hT := tx_self hok hl
  have HF := Lib.hid (spec_ParseFormulaO (txt f) w hT.1)
  have HT := Lib.hid hT
  clear hT
  go_enter Tryz.func25, Tryz.ntmps25
  go_wp2_with fail
  refine HF.out.mono ?_
  rintro e w1 ⟨a, j, c, hR, hj, hE, hb⟩
  have R := Lib.hid hR
  have BB := Lib.hid hb
  clear HF hR hb
  rcases hE with ⟨hc, x, rfl⟩ | ⟨rfl, rfl, h40, rfl⟩ | ⟨rfl, rfl, h40, A, k, rfl, hA, hS⟩
  · exact absurd HT.out (tx_no R.out (.inl hc))
  · exact absurd HT.out (tx_no R.out (.inr (.inl h40)))
  · have hta : txt a = txt f := Classical.byContradiction fun hn => tx_no R.out (.inr (.inr hn)) HT.out
    have haf : a = f := txt_inj (R.out.good (fun h => by cases h)) hok hta
    subst haf
    have S := Lib.hid hS
    clear hA hS hta
    go_wp2
    go_ret
    exact ⟨_, _, rfl, S.out, BB.out⟩
theorem impl_IsGuarded_ok (v : Value) (f : Fm) (s : Nat) (w : World) (h : Sl cN w v (enc f)) (hl : (enc f).length ≤ 40) (hok : f.ok = true) (hs : s ≤ 5) :
    Calls Tryz.prog 17 #[v, .int .i64 s] w fun e w' => e = .returned (.tuple #[.bool (gd f s), .int .i64 0]) ∧ Below w.heap.size w w' := by
  have hcode := vcode_ok ((isF_iff _).2 ⟨f, hok, rfl, hl⟩) hs
  have H1 := Lib.hid (hcode ▸ impl_variableCode v (enc f) s w h (by omega))
  have H2 := Lib.hid (fun W (hW : Sl cN W v (enc f)) => impl_isGuarded f s v W hW (by omega))
  have HH := Lib.hid h
  obtain ⟨A, c, rfl⟩ := h.opn
  clear h hcode hok
  generalize gd f s = q at *
  go_enter Tryz.func17, Tryz.ntmps17
  go_wp2_with fail
  refine H1.out.mono ?_
  rintro e w1 ⟨rfl, hb⟩
  have B := Lib.hid hb
  have H2' := Lib.hid (H2.out _ (HH.out.below hb))
  clear hb H2
  go_wp2_with fail
  refine H2'.out.mono ?_
  rintro e w2 ⟨rfl, hb⟩
  have B2 := Lib.hid (bthen B.out hb)
  clear hb
  go_wp2
  go_ret2
  exact ⟨rfl, B2.out⟩
theorem spec_l03Code_ok (v : Value) (xs : List Nd) (s : Nat) (w : World) (h : Sl cN w v xs) (hl : xs.length ≤ 1048576) (hf : isF xs = true) (hs : s ≤ 5) :
    Calls Tryz.prog 87 #[v, .int .i64 s] w fun e w' => e = .returned (.int .i64 0) ∧ w = w' := by
  have H1 := Lib.hid (hf ▸ spec_l02Is v xs w h (by omega))
  have hin : inR (s : Int) 0 5 = true := inR_true (by omega) (by omega)
  have H2 := Lib.hid (fun W => hin ▸ spec_l01In (s : Int) 0 5 W)
  obtain ⟨A, c, rfl⟩ := h.opn
  clear h hin hf
  go_enter Tryz.func87, Tryz.ntmps87
  go_wp2_with fail
  refine H1.out.mono ?_
  rintro e w1 ⟨rfl, rfl⟩
  go_wp2_with fail
  refine (H2.out _).mono ?_
  rintro e w2 ⟨rfl, rfl⟩
  go_wp2
  go_ret
  exact ⟨rfl, rfl⟩
theorem spec_IsGuarded_ok (v : Value) (f : Fm) (s : Nat) (w : World) (h : Sl cN w v (enc f)) (hl : (enc f).length ≤ 40) (hok : f.ok = true) (hs : s ≤ 5) :
    Calls Tryz.prog 18 #[v, .int .i64 s] w fun e w' => e = .returned (.tuple #[.bool (gd f s), .int .i64 0]) ∧ Below w.heap.size w w' := by
  have H1 := Lib.hid (spec_l03Code_ok v (enc f) s w h (by omega) ((isF_iff _).2 ⟨f, hok, rfl, hl⟩) hs)
  have H2 := Lib.hid (spec_l03Guarded f s v w h (by omega))
  obtain ⟨A, c, rfl⟩ := h.opn
  clear h hok
  generalize gd f s = q at *
  go_enter Tryz.func18, Tryz.ntmps18
  go_wp2_with fail
  refine H1.out.mono ?_
  rintro e w1 ⟨rfl, rfl⟩
  go_wp2_with fail
  refine H2.out.mono ?_
  rintro e w2 ⟨rfl, rfl⟩
  go_wp2
  go_ret2
  exact ⟨rfl, Below.refl _ _⟩
theorem Grw.lit0 {α β : Type} {S : RowS α β} (w : World) : Grw S w.heap.size (w.alloc (.cells #[] S.t)) (.slice (some ⟨w.heap.size, 0, none⟩) 0 0) [] :=
  ⟨[], Ow.lit (K := S.K) (e := S.t) (B := w.heap.size) [] rfl rfl (Nat.le_refl _), rfl, fun p hp => by simp at hp⟩
theorem Grw.sl2 {B : Nat} {w : World} {v : Value} {fs : List Fm} (h : Grw fmS B w v fs) : Sl2 cN w v (fs.map enc) := by
  obtain ⟨ps, h1, rfl, h3⟩ := h
  have h1' : Sl cH w v (ps.map (·.1)) := h1.sl
  refine ⟨ps.map (·.1), h1', by simp, fun i a b => ?_⟩
  have hi : i < ps.length := by simpa using a
  have := (h3 ps[i] (List.getElem_mem hi)).1
  rw [List.getElem_map, List.getElem_map, List.getElem_map]
  exact this
/- Contracts of chapter 33, both sides as one: UniquenessFormula, OuterParts, ReplaceOuter at its own parts. -/
def UqP (F : FuncId) (xs : List Nd) (s t : Int) (R : List Nd) (k : Int) : Prop :=
  ∀ (v : Value) (w : World), Sl cN w v xs → Calls Tryz.prog F #[v, .int .i64 s, .int .i64 t] w fun e w' => ∃ A c, e = .returned (.tuple #[.slice A R.length c, .int .i64 k]) ∧ Sl cN w' (.slice A R.length c) R ∧ Below w.heap.size w w'
theorem uq_both (xs : List Nd) (s t : Int) (hl : xs.length ≤ 1048576) : ∃ (R : List Nd) (k : Int), R.length ≤ 40 ∧ UqP 14 xs s t R k ∧ UqP 15 xs s t R k ∧
    (k = 0 → ∃ (f : Fm) (n m : Nat), f.ok = true ∧ xs = enc f ∧ (enc f).length ≤ 40 ∧ s = n ∧ n ≤ 5 ∧ t = m ∧ m ≤ 5 ∧ ¬ m = n ∧ f.occ m = false ∧ R = enc (uqF f n m)) := by
  by_cases hc : vcode xs s = 0
  · obtain ⟨⟨f, hok, rfl, hl40⟩, n, rfl, hn⟩ := vcode_zero hc
    clear hl
    have hl := hl40
    by_cases hbad : inR t 0 5 = false ∨ t = n ∨ occ (enc f) t = true
    · exact ⟨[], 2, by simp, fun v w h => (impl_Un_rng v f n t w h hl hok hn hbad).mono fun e w' ⟨he, hb⟩ => ⟨none, 0, he, Sl.nil, hb⟩,
        fun v w h => (spec_Un_rng v f n t w h hl hok hn hbad).mono fun e w' ⟨he, hb⟩ => ⟨none, 0, he, Sl.nil, hb⟩, fun h => by cases h⟩
    · simp only [not_or, Bool.not_eq_false, Bool.not_eq_true] at hbad
      obtain ⟨hI, hts, ho⟩ := hbad
      have hr := inR_iff.1 hI
      obtain ⟨k, rfl⟩ := Int.eq_ofNat_of_zero_le hr.1
      refine ⟨madeL (unL (enc f) n k), madeC (unL (enc f) n k), madeL_length _, fun v w h => (impl_Un_ok v f n k w h hl hok hn (by omega) (by omega) ho).mono ?_, fun v w h => (spec_Un_ok v f n k w h hl hok hn (by omega) (by omega) ho).mono ?_, fun h => ?_⟩
      · rintro e w' ⟨u, he, ho, hb⟩
        obtain ⟨A, c, rfl⟩ := ho.opn
        exact ⟨A, c, he, ho.sl, hb⟩
      · rintro e w' ⟨u, he, ho, hb⟩
        obtain ⟨A, c, rfl⟩ := ho.opn
        exact ⟨A, c, he, ho.sl, hb⟩
      · refine ⟨f, n, k, hok, rfl, hl, rfl, hn, rfl, by omega, by omega, by rw [← occ_enc]; exact ho, ?_⟩
        rw [uqF_enc hok hn]
        unfold madeC at h
        unfold madeL
        split at h
        · rename_i hh; rw [if_pos hh]
        · cases h
  · exact ⟨[], vcode xs s, by simp, fun v w h => (impl_Un_bad v xs s t w h hl hc).mono fun e w' ⟨he, hb⟩ => ⟨none, 0, he, Sl.nil, hb⟩,
      fun v w h => (spec_Un_bad v xs s t w h hl hc).mono fun e w' ⟨he, hb⟩ => ⟨none, 0, he, Sl.nil, hb⟩, fun h => absurd h hc⟩
def OpP (F : FuncId) (xs : List Nd) (s : Int) (R : List ByteArray) (k : Int) : Prop :=
  ∀ (v : Value) (w : World), Sl cN w v xs → Calls Tryz.prog F #[v, .int .i64 s] w fun e w' => ∃ A c, e = .returned (.tuple #[.slice A R.length c, .int .i64 k]) ∧ Sl cS w' (.slice A R.length c) R ∧ Below w.heap.size w w'
theorem op_both (xs : List Nd) (s : Int) (hl : xs.length ≤ 1048576) : ∃ (R : List ByteArray) (k : Int), R.length ≤ 1000 ∧ OpP 22 xs s R k ∧ OpP 23 xs s R k ∧
    (k = 0 → ∃ (f : Fm) (n : Nat), f.ok = true ∧ xs = enc f ∧ (enc f).length ≤ 40 ∧ s = n ∧ n ≤ 5 ∧ R = (outs n f []).map txt) := by
  by_cases hc : vcode xs s = 0
  · obtain ⟨⟨f, hok, rfl, hl40⟩, n, rfl, hn⟩ := vcode_zero hc
    clear hl
    have hl := hl40
    refine ⟨(outs n f []).map txt, 0, by rw [List.length_map]; exact (outs_props hok hl).1, fun v w h => (impl_OuterParts_ok v f n w h hl hok hn).mono ?_, fun v w h => (spec_OuterParts_ok v f n w h hl hok hn).mono ?_, fun _ => ⟨f, n, hok, rfl, hl, rfl, hn, rfl⟩⟩
    · rintro e w' ⟨u, he, ho, hb⟩
      obtain ⟨A, c, rfl⟩ := ho.opn
      exact ⟨A, c, he, ho.sl, hb⟩
    · rintro e w' ⟨u, he, ho, hb⟩
      obtain ⟨A, c, rfl⟩ := ho.opn
      exact ⟨A, c, he, ho.sl, hb⟩
  · exact ⟨[], vcode xs s, by simp, fun v w h => (impl_OuterParts_bad v xs s w h hl hc).mono fun e w' ⟨he, hb⟩ => ⟨none, 0, he, Sl.nil, hb⟩,
      fun v w h => (spec_OuterParts_bad v xs s w h hl hc).mono fun e w' ⟨he, hb⟩ => ⟨none, 0, he, Sl.nil, hb⟩, fun h => absurd h hc⟩
theorem outs_gd {f : Fm} {s : Nat} (hok : f.ok = true) (hl : (enc f).length ≤ 40) : gdF (outs s f []) := fun x hx => ⟨occs_ok hok _ (outs_mem hx), by have := (occs_len (outs_mem hx)).2; omega⟩
theorem impl_ReplaceOuter_self (v u : Value) (f : Fm) (s : Nat) (w : World) (h : Sl cN w v (enc f)) (h' : Sl2 cN w u ((outs s f []).map enc)) (hl : (enc f).length ≤ 40) (hok : f.ok = true) (hs : s ≤ 5) (hT : tot ((outs s f []).map enc) ≤ 1048576) :
    Calls Tryz.prog 26 #[v, .int .i64 s, u] w fun e w' => ∃ A c, e = .returned (.tuple #[.slice A (enc f).length c, .int .i64 0]) ∧ Sl cN w' (.slice A (enc f).length c) (enc f) ∧ Below w.heap.size w w' := by
  refine (impl_ReplaceOuter_good v u f (outs s f []) s w h h' hl hok hs (outs_gd hok hl) hT).mono ?_
  rintro e w' ⟨r, -, h2, hb⟩
  obtain ⟨he, ho⟩ := h2 rfl
  rw [repO_self] at he ho
  have e1 : madeL (enc f) = enc f := by unfold madeL; rw [if_pos hl]
  have e2 : madeC (enc f) = 0 := by unfold madeC; rw [if_pos hl]
  rw [e1] at ho
  rw [e2] at he
  obtain ⟨A, c, rfl⟩ := ho.opn
  exact ⟨A, c, he, ho.sl, hb⟩
end Go.Proofs.YtgcoohlakcncbaaGreat

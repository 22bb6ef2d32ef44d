/- Contracts for FnFixedPoints: both sides as one, and what they yield. -/
import Derived.Test.YtgcoohlakcncbaaGreatM33L
namespace Go.Proofs.YtgcoohlakcncbaaGreat
open Go.RowKit
set_option linter.unusedVariables false
set_option linter.unusedSimpArgs false
theorem trOf_in (p : Nat → Bool) (n : Nat) : (n : Int) ∈ trOf p ↔ n < 61 ∧ (p n == !p 60) = true := by
  unfold trOf trTo
  rw [List.mem_map]
  constructor
  · rintro ⟨i, hi, e⟩
    obtain ⟨h1, h2⟩ := List.mem_filter.1 hi
    have : i = n := by omega
    subst this
    exact ⟨List.mem_range.1 h1, h2⟩
  · rintro ⟨h1, h2⟩
    exact ⟨n, List.mem_filter.2 ⟨List.mem_range.2 h1, h2⟩, rfl⟩
theorem trOf_nat {p : Nat → Bool} {x : Int} (h : x ∈ trOf p) : 0 ≤ x := by
  unfold trOf trTo at h
  obtain ⟨i, -, rfl⟩ := List.mem_map.1 h
  omega
theorem trOf_eq {p q : Nat → Bool} (h : ∀ n, n < 61 → p n = q n) : trOf p = trOf q := by
  unfold trOf trTo
  rw [h 60 (by omega)]
  congr 1
  exact List.filter_congr fun n hn => by rw [h n (List.mem_range.1 hn)]
/-- the formula of a trace has its ranks -/
theorem oF_at (p : Nat → Bool) {n : Nat} (hn : n < 61) : rk (oF (!p 60) (trOf p)) 0 n = p n := by
  rw [oF_rk _ _ fun x hx => trOf_nat hx]
  have e : decide ((n : Int) ∈ trOf p) = (p n == !p 60) := by
    rw [Bool.eq_iff_iff, decide_eq_true_iff, trOf_in]
    exact ⟨fun h => h.2, fun h => ⟨hn, h⟩⟩
  rw [e]
  cases p n <;> cases p 60 <;> rfl
theorem mems_in {m v : Nat} (h : v < 64) : ((v : Int) ∈ mems m) ↔ m.testBit v = true := by
  unfold mems memsTo
  rw [List.mem_map]
  constructor
  · rintro ⟨i, hi, e⟩
    obtain ⟨h1, h2⟩ := List.mem_filter.1 hi
    have : i = v := by omega
    subst this
    exact h2
  · intro h2
    exact ⟨v, List.mem_filter.2 ⟨List.mem_range.2 h, h2⟩, rfl⟩
theorem vmask_occ {d : Fm} (hd : d.ok = true) (s : Nat) : (vmask (enc d)).testBit s = d.occ s := by
  rw [← occ_bit _ _ (enc_nodes d hd), occ_enc]
theorem only_occ {f : Fm} {s : Nat} (hf : f.ok = true) (h : only (enc f) s = true) : ∀ t, f.occ t = true → t = s := by
  intro t ht
  have e : andnot (vmask (enc f)) (2 ^ s) = 0 := of_decide_eq_true h
  have e2 := congrArg (fun m => Nat.testBit m t) e
  simp only [andnot_testBit, Nat.zero_testBit, vmask_occ hf, ht, Bool.true_and, Nat.testBit_two_pow] at e2
  by_cases hst : s = t
  · exact hst.symm
  · rw [decide_eq_false hst] at e2; cases e2
def OfP (F : FuncId) (xs : List Nd) (s : Int) (R : List Nd) (k : Int) : Prop :=
  ∀ (v : Value) (w : World), Sl cN w v xs → Calls Tryz.prog F #[v, .int .i64 s] w fun e w' => ∃ A c, e = .returned (.tuple #[.slice A R.length c, .int .i64 k]) ∧ Sl cN w' (.slice A R.length c) R ∧ Below w.heap.size w w'
def TrP (F : FuncId) (xs : List Nd) (s : Int) (b : Bool) (T : List Int) (k : Int) : Prop :=
  ∀ (v : Value) (w : World), Sl cN w v xs → Calls Tryz.prog F #[v, .int .i64 s] w fun e w' => ∃ A c, e = .returned (.tuple #[.agg #[.bool b, .slice A T.length c], .int .i64 k]) ∧ Sl cI w' (.slice A T.length c) T ∧ Below w.heap.size w w'
theorem ofP_ow {F : FuncId} {xs R : List Nd} {s k : Int} (h : ∀ (v : Value) (w : World), Sl cN w v xs → Calls Tryz.prog F #[v, .int .i64 s] w fun e w' => ∃ u, e = .returned (.tuple #[u, .int .i64 k]) ∧ Ow cN 82 w.heap.size w' u R ∧ Below w.heap.size w w') : OfP F xs s R k :=
  fun v w hs => (h v w hs).mono fun e w' ⟨u, he, ho, hb⟩ => by obtain ⟨A, c, rfl⟩ := ho.opn; exact ⟨A, c, he, ho.sl, hb⟩
theorem ofP_nil {F : FuncId} {xs : List Nd} {s k : Int} (h : ∀ (v : Value) (w : World), Sl cN w v xs → Calls Tryz.prog F #[v, .int .i64 s] w fun e w' => e = .returned (.tuple #[.slice none 0 0, .int .i64 k]) ∧ Below w.heap.size w w') : OfP F xs s [] k :=
  fun v w hs => (h v w hs).mono fun e w' ⟨he, hb⟩ => ⟨none, 0, he, Sl.nil, hb⟩
theorem trP_ow {F : FuncId} {xs : List Nd} {s k : Int} {b : Bool} {T : List Int} (h : ∀ (v : Value) (w : World), Sl cN w v xs → Calls Tryz.prog F #[v, .int .i64 s] w fun e w' => ∃ u, e = .returned (.tuple #[.agg #[.bool b, u], .int .i64 k]) ∧ Ow cI 2 w.heap.size w' u T ∧ Below w.heap.size w w') : TrP F xs s b T k :=
  fun v w hs => (h v w hs).mono fun e w' ⟨u, he, ho, hb⟩ => by obtain ⟨A, c, rfl⟩ := ho.opn; exact ⟨A, c, he, ho.sl, hb⟩
theorem trP_nil {F : FuncId} {xs : List Nd} {s k : Int} (h : ∀ (v : Value) (w : World), Sl cN w v xs → Calls Tryz.prog F #[v, .int .i64 s] w fun e w' => e = .returned (.tuple #[.agg #[.bool false, .slice none 0 0], .int .i64 k]) ∧ Below w.heap.size w w') : TrP F xs s false [] k :=
  fun v w hs => (h v w hs).mono fun e w' ⟨he, hb⟩ => ⟨none, 0, he, Sl.nil, hb⟩
theorem bldS_ok' {f d : Fm} {s : Nat} (hf : f.ok = true) (h : fpB f s = some d) : d.ok = true := bldS_ok hf h
theorem fp_both (xs : List Nd) (s : Int) (hl : xs.length ≤ 1048576) : ∃ (R : List Nd) (k : Int), R.length ≤ 40 ∧ OfP 28 xs s R k ∧ OfP 29 xs s R k ∧
    (k = 0 → ∃ (f : Fm) (n : Nat) (d : Fm), f.ok = true ∧ xs = enc f ∧ (enc f).length ≤ 40 ∧ s = n ∧ n ≤ 5 ∧ gd f n = true ∧ fpB f n = some d ∧ d.ok = true ∧ R = enc d) := by
  by_cases hc : vcode xs s = 0
  · obtain ⟨⟨f, hok, rfl, hl40⟩, n, rfl, hn⟩ := vcode_zero hc
    clear hl
    cases hg : gd f n
    · exact ⟨[], 5, by simp, ofP_nil fun v w h => impl_FixedPointOf_state v f n w h hl40 hok hn hg, ofP_nil fun v w h => spec_FixedPointOf_state v f n w h hl40 hok hn hg, fun h => by cases h⟩
    · refine ⟨fpL (fpB f n), fpC (fpB f n), fpL_len f n hl40, ofP_ow fun v w h => impl_FixedPointOf_ok v f n w h hl40 hok hn hg, ofP_ow fun v w h => spec_FixedPointOf_ok v f n w h hl40 hok hn hg, fun h => ?_⟩
      cases hd : fpB f n with
      | none => rw [hd] at h; cases h
      | some d => exact ⟨f, n, d, hok, rfl, hl40, rfl, hn, hg, hd, bldS_ok' hok hd, rfl⟩
  · exact ⟨[], vcode xs s, by simp, ofP_nil fun v w h => impl_FixedPointOf_bad v xs s w h hl hc, ofP_nil fun v w h => spec_FixedPointOf_bad v xs s w h hl hc, fun h => absurd h hc⟩
theorem fp_at {f : Fm} {n : Nat} (hok : f.ok = true) (hl40 : (enc f).length ≤ 40) (hn : n ≤ 5) (hg : gd f n = true) : ∃ (R : List Nd) (k : Int), R.length ≤ 40 ∧ OfP 28 (enc f) n R k ∧ OfP 29 (enc f) n R k ∧
    ((k = 3 ∧ R = []) ∨ (k = 0 ∧ ∃ d : Fm, fpB f n = some d ∧ d.ok = true ∧ R = enc d)) := by
  refine ⟨fpL (fpB f n), fpC (fpB f n), fpL_len f n hl40, ofP_ow fun v w h => impl_FixedPointOf_ok v f n w h hl40 hok hn hg, ofP_ow fun v w h => spec_FixedPointOf_ok v f n w h hl40 hok hn hg, ?_⟩
  cases hd : fpB f n with
  | none => exact .inl ⟨rfl, rfl⟩
  | some d => exact .inr ⟨rfl, d, rfl, bldS_ok' hok hd, rfl⟩
theorem lf_both (xs : List Nd) (s : Int) (hl : xs.length ≤ 1048576) : ∃ (R : List Nd) (k : Int) (b : Bool) (T : List Int) (kt : Int), R.length ≤ 40 ∧ T.length ≤ 61 ∧ OfP 33 xs s R k ∧ OfP 34 xs s R k ∧
    TrP 35 xs s b T kt ∧ TrP 36 xs s b T kt ∧
    (k = 0 → ∃ (f : Fm) (n : Nat), f.ok = true ∧ xs = enc f ∧ (enc f).length ≤ 40 ∧ s = n ∧ n ≤ 5 ∧ gd f n = true ∧ (∀ t, f.occ t = true → t = n) ∧ b = (!(fpS f 61).testBit 60) ∧ T = trOf (fpS f 61).testBit ∧ R = enc (oF b T)) := by
  by_cases hc : vcode xs s = 0
  · obtain ⟨⟨f, hok, rfl, hl40⟩, n, rfl, hn⟩ := vcode_zero hc
    clear hl
    cases hL : lone f n
    · exact ⟨[], 5, false, [], 5, by simp, by simp, ofP_nil fun v w h => impl_LetterlessFixedPoint_no v n 5 w (by decide) (impl_FixedPointTrace_state v f n w h hl40 hok hn hL), ofP_nil fun v w h => spec_LetterlessFixedPoint_state v f n w h hl40 hok hn hL,
        trP_nil fun v w h => impl_FixedPointTrace_state v f n w h hl40 hok hn hL, trP_nil fun v w h => spec_FixedPointTrace_state v f n w h hl40 hok hn hL, fun h => by cases h⟩
    · refine ⟨madeL (fpOut f), madeC (fpOut f), _, _, 0, madeL_length _, trOf_length _, ofP_ow fun v w h => impl_LetterlessFixedPoint_ok v f n w h hl40 hok hn hL, ofP_ow fun v w h => spec_LetterlessFixedPoint_ok v f n w h hl40 hok hn hL,
        trP_ow fun v w h => impl_FixedPointTrace_ok v f n w h hl40 hok hn hL, trP_ow fun v w h => spec_FixedPointTrace_ok v f n w h hl40 hok hn hL, fun h => ?_⟩
      unfold lone at hL
      rw [Bool.and_eq_true] at hL
      refine ⟨f, n, hok, rfl, hl40, rfl, hn, hL.1, only_occ hok hL.2, rfl, rfl, ?_⟩
      rw [oF_enc]
      unfold madeC at h
      unfold madeL
      split at h
      · rename_i hh; rw [if_pos hh]; rfl
      · cases h
  · exact ⟨[], vcode xs s, false, [], vcode xs s, by simp, by simp, ofP_nil fun v w h => impl_LetterlessFixedPoint_no v s (vcode xs s) w hc (impl_FixedPointTrace_bad v xs s w h hl hc), ofP_nil fun v w h => spec_LetterlessFixedPoint_bad v xs s w h hl hc,
      trP_nil fun v w h => impl_FixedPointTrace_bad v xs s w h hl hc, trP_nil fun v w h => spec_FixedPointTrace_bad v xs s w h hl hc, fun h => absurd h hc⟩
theorem ifx_pack {m g : Fm} {s : Nat} (h : ifc m g = false → ifv m g s = true) : ∃ (y : Bool) (cd : Int), ifR m g s = #[.bool y, .int .i64 cd] ∧ ((cd = 0 ∧ y = true) ∨ cd = 3) := by
  cases hc : ifc m g
  · exact ⟨ifv m g s, 0, by unfold ifR; rw [if_neg (by rw [hc]; decide)], .inl ⟨rfl, h hc⟩⟩
  · exact ⟨false, 3, by unfold ifR; rw [if_pos hc], .inr rfl⟩
/-- the built fixed point is found to be one -/
theorem bld_pack {f d : Fm} {n : Nat} (hf : f.ok = true) (hd : d.ok = true) (hg : gd f n = true) (h : fpB f n = some d) :
    (vmask (enc d)).testBit n = false ∧ ∃ (y : Bool) (cd : Int), ifR (f.sub n d) d n = #[.bool y, .int .i64 cd] ∧ ((cd = 0 ∧ y = true) ∨ cd = 3) := by
  have hv : (vmask (enc d)).testBit n = false := by
    rw [vmask_occ hd]
    cases e : d.occ n with
    | false => rfl
    | true => exact absurd rfl (bld_occ _ f d hg (Nat.le_refl _) h n e).2
  obtain ⟨h1, h2⟩ := bld_thB hf hd hg h
  exact ⟨hv, ifx_pack fun _ => by unfold ifv; rw [hv, h1, h2]; rfl⟩
theorem ltl_pack {f : Fm} {n : Nat} (hf : f.ok = true) (hg : gd f n = true) (ho : ∀ t, f.occ t = true → t = n) {b : Bool} {T : List Int} (hb : b = (!(fpS f 61).testBit 60)) (hT : T = trOf (fpS f 61).testBit) (hl : (enc (oF b T)).length ≤ 40) :
    (oF b T).novar = true ∧ (!rk (oF b T) 0 60) = b ∧ trOf (rk (oF b T) 0) = T ∧ (∃ (y : Bool) (cd : Int), ifR (f.sub n (oF b T)) (oF b T) n = #[.bool y, .int .i64 cd] ∧ ((cd = 0 ∧ y = true) ∨ cd = 3)) ∧
      ∀ d : Fm, fpB f n = some d → d.novar = true ∧ alike (rk d 0) (rk (oF b T) 0) = true := by
  have hr : ∀ i, i < 61 → rk (oF b T) 0 i = (fpS f 61).testBit i := fun i hi => by subst hb hT; exact oF_at _ hi
  have hv : (oF b T).novar = true := oF_novar _ _
  have hok := novar_ok _ hv
  generalize oF b T = l at *
  refine ⟨hv, by rw [hr 60 (by omega), hb], by rw [trOf_eq hr, hT], ifx_pack fun hc => ?_, fun d hd => ?_⟩
  · have hvm : (f.sub n l).novar = true := occ_novar fun t => by
      cases e : (f.sub n l).occ t with
      | false => rfl
      | true =>
        rcases sub_occ e with e | e
        · exact absurd (ho t e.1) e.2
        · rw [novar_occ hv] at e; cases e
    have hlm : (enc (f.sub n l)).length ≤ 40 := by
      unfold ifc at hc
      rw [Bool.or_eq_false_iff] at hc
      have := of_decide_eq_false hc.1
      omega
    have hs := fpS_sol hg ho hr
    unfold ifv
    rw [vmask_occ hok, novar_occ hv, alike_thB hv hvm hl hlm fun i hi => (hs i hi).symm, alike_thB hvm hv hlm hl hs]
    rfl
  · obtain ⟨h1, h2⟩ := bld_rk hg ho hd
    exact ⟨h1, (alike_iff _ _).2 fun i hi => by rw [h2 i hi, hr i hi]⟩
theorem impl_VariablesOf_ok (v : Value) (d : Fm) (w : World) (h : Sl cN w v (enc d)) (hl : (enc d).length ≤ 40) (hok : d.ok = true) :
    Calls Tryz.prog 30 #[v] w fun e w' => ∃ A c, e = .returned (.tuple #[.slice A (mems (vmask (enc d))).length c, .int .i64 0]) ∧ Sl cI w' (.slice A (mems (vmask (enc d))).length c) (mems (vmask (enc d))) ∧ Below w.heap.size w w' := by
  have hF : isF (enc d) = true := (isF_iff _).2 ⟨d, hok, rfl, hl⟩
  have H1 := Lib.hid (hF ▸ impl_isFormula v (enc d) w h (by omega))
  have H2 := Lib.hid (fun W (hW : Sl cN W v (enc d)) => impl_variableMask v (enc d) W hW (by omega) (enc_nodes d hok))
  have hm := vmask_lt (enc d) (enc_nodes d hok)
  have H3 := Lib.hid (fun W => impl_membersOf (vmask (enc d)) W (by omega))
  have HH := Lib.hid h
  obtain ⟨A, c, rfl⟩ := h.opn
  clear h hF hm hok
  generalize vmask (enc d) = m at *
  go_enter Tryz.func30, Tryz.ntmps30
  go_wp2_with fail
  refine H1.out.mono ?_
  rintro e w1 ⟨rfl, hb⟩
  have B := Lib.hid hb
  have HH1 := Lib.hid (HH.out.below hb)
  clear hb
  go_wp2_with fail
  refine (H2.out _ HH1.out).mono ?_
  rintro e w2 ⟨rfl, hb⟩
  have B2 := Lib.hid (bthen B.out hb)
  clear hb
  go_wp2_with fail
  refine (H3.out _).mono ?_
  rintro e w3 ⟨u, rfl, ho, hb⟩
  have B3 := Lib.hid (bthen B2.out hb)
  obtain ⟨A3, c3, rfl⟩ := ho.opn
  have O := Lib.hid ho.sl
  clear ho hb
  go_wp2
  go_ret2
  exact ⟨_, _, rfl, O.out, B3.out⟩
end Go.Proofs.YtgcoohlakcncbaaGreat

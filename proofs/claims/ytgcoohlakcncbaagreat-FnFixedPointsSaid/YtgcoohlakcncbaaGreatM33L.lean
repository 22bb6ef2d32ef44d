/- Plain law: fixed points at ranks; the built fixed point and the letterless one are fixed points, in GL's models. No program in sight. -/
import Derived.Test.YtgcoohlakcncbaaGreatM32G
import Derived.Test.YtgcoohlakcncbaaGreatM32U
import Derived.Test.YtgcoohlakcncbaaGreat33v
import Derived.Test.YtgcoohlakcncbaaGreat33f
import Derived.Test.YtgcoohlakcncbaaGreatJF
namespace Go.Proofs.YtgcoohlakcncbaaGreat
open Go.RowKit
set_option linter.unusedVariables false
theorem occs_occ {s t : Nat} : ∀ {f g : Fm}, g ∈ occs s f → g.occ t = true → f.occ t = true
  | .var _, _, h, _ => by simp [occs] at h
  | .fls, _, h, _ => by simp [occs] at h
  | .bin k a b, g, h, ht => by
    rw [occs, List.mem_append] at h
    rcases h with h | h
    · simp only [Fm.occ, occs_occ h ht, Bool.true_or]
    · simp only [Fm.occ, occs_occ h ht, Bool.or_true]
  | .un k a, g, h, ht => by
    rw [occs] at h
    split at h
    · rw [List.mem_singleton.1 h] at ht; exact ht
    · simp at h
theorem repO_occ {s t : Nat} {r : Fm → Fm} : ∀ {f : Fm}, (repO s r f).occ t = true → (f.occ t = true ∧ (gd f s = true → t ≠ s)) ∨ ∃ g ∈ occs s f, (r g).occ t = true
  | .var u, h => .inl ⟨h, fun hg => by
      have e : u = t := by simpa [repO, Fm.occ] using h
      subst e
      simpa [gd] using hg⟩
  | .fls, h => by cases h
  | .bin k a b, h => by
    simp only [repO, Fm.occ, Bool.or_eq_true] at h
    rcases h with h | h
    · rcases repO_occ h with ⟨h1, h2⟩ | ⟨g, hg, h1⟩
      · exact .inl ⟨by simp only [Fm.occ, h1, Bool.true_or], fun hg => h2 (by simp only [gd, Bool.and_eq_true] at hg; exact hg.1)⟩
      · exact .inr ⟨g, by rw [occs, List.mem_append]; exact .inl hg, h1⟩
    · rcases repO_occ h with ⟨h1, h2⟩ | ⟨g, hg, h1⟩
      · exact .inl ⟨by simp only [Fm.occ, h1, Bool.or_true], fun hg => h2 (by simp only [gd, Bool.and_eq_true] at hg; exact hg.2)⟩
      · exact .inr ⟨g, by rw [occs, List.mem_append]; exact .inr hg, h1⟩
  | .un k a, h => by
    rw [repO] at h
    split at h
    · rename_i ho
      exact .inr ⟨.un k a, by rw [occs, if_pos ho]; exact List.mem_singleton.2 rfl, h⟩
    · rename_i ho
      refine .inl ⟨h, fun _ e => ho ?_⟩
      subst e
      exact h
theorem sub_occ {s t : Nat} {d : Fm} : ∀ {f : Fm}, (f.sub s d).occ t = true → (f.occ t = true ∧ t ≠ s) ∨ d.occ t = true
  | .var u, h => by
    rw [Fm.sub] at h
    split at h
    · exact .inr h
    · rename_i hu
      refine .inl ⟨h, fun e => hu ?_⟩
      have e2 : u = t := by simpa [Fm.occ] using h
      rw [e2, e]
  | .fls, h => by cases h
  | .bin k a b, h => by
    simp only [Fm.sub, Fm.occ, Bool.or_eq_true] at h
    rcases h with h | h
    · exact (sub_occ h).imp (fun h => ⟨by simp only [Fm.occ, h.1, Bool.true_or], h.2⟩) id
    · exact (sub_occ h).imp (fun h => ⟨by simp only [Fm.occ, h.1, Bool.or_true], h.2⟩) id
  | .un k a, h => (sub_occ (f := a) h).imp id id
theorem cst1_occ (g : Fm) (t : Nat) : (cst1 g).occ t = false := by unfold cst1; split <;> rfl
theorem wto_occ {s t i : Nat} {f : Fm} (h : (wto s f i).occ t = true) : f.occ t = true := by
  unfold wto at h
  rcases repO_occ h with h | ⟨g, hg, h⟩
  · exact h.1
  · rcases wto_img (i := i) hg with e | ⟨-, e, -⟩
    · rw [e, cst1_occ] at h; cases h
    · exact occs_occ e h
theorem bld_occ {s : Nat} : ∀ (n : Nat) (f d : Fm), gd f s = true → (outs s f []).length ≤ n → bldS s n f = some d → ∀ t, d.occ t = true → f.occ t = true ∧ t ≠ s := by
  have base : ∀ f : Fm, gd f s = true → (outs s f []).length = 0 → ∀ t, f.occ t = true → f.occ t = true ∧ t ≠ s := by
    intro f hg h0 t ht
    have ho : f.occ s = false := by
      cases e : f.occ s with
      | false => rfl
      | true => exact absurd (outs_nil.1 (List.length_eq_zero_iff.1 h0)) ((gd_occ hg).1 e)
    exact ⟨ht, fun e => by rw [e, ho] at ht; cases ht⟩
  intro n
  induction n with
  | zero =>
    intro f d hg hl hd
    rw [bldS] at hd
    obtain rfl := Option.some.inj hd
    exact base f hg (by omega)
  | succ n IH =>
    intro f d hg hl hd
    rw [bldS] at hd
    split at hd
    · rename_i h0
      obtain rfl := Option.some.inj hd
      exact base f hg h0
    · split at hd
      · cases hd
      · rename_i I hto
        split at hd
        · cases hd
        · obtain rfl := Option.some.inj hd
          obtain ⟨hlen, hform⟩ := imsTo_form hto
          intro t ht
          rcases repO_occ ht with h | ⟨g, hgm, h⟩
          · exact ⟨h.1, h.2 hg⟩
          · have hi := ix_outs hgm
            obtain ⟨di, hb, hIi⟩ := hform _ hi
            have hgi : (outs s f []).getD (ix (outs s f []) g) .fls = g := enc_eqT (ix_at hi)
            have h : (I.getD (ix (outs s f []) g) .fls).occ t = true := h
            rw [hIi, hgi] at h
            rcases sub_occ h with h | h
            · exact ⟨occs_occ hgm h.1, h.2⟩
            · have := IH _ di (wto_gd hg _) (by have := wto_outs (s := s) (f := f) (i := ix (outs s f []) g) hi; omega) hb t h
              exact ⟨wto_occ this.1, this.2⟩
/-- a guarded formula of one variable at a rank: what the variable is below tells it -/
theorem rk_low {s : Nat} : ∀ (f : Fm) (vs vs' n : Nat), (∀ k, k < n → vs.testBit k = vs'.testBit k) → (∀ t, f.occ t = true → t = s) → gd f s = true → rk f vs n = rk f vs' n := by
  have low : ∀ (f : Fm) (vs vs' n : Nat), (∀ k, k ≤ n → vs.testBit k = vs'.testBit k) → rk f vs n = rk f vs' n := by
    intro f vs vs'
    induction f with
    | var t => intro n h; exact h n (Nat.le_refl _)
    | fls => intro n _; rfl
    | bin k a b iha ihb => intro n h; cases k <;> simp only [rk, iha n h, ihb n h]
    | un k a ih =>
      intro n h
      have e : ∀ j, j ∈ List.range n → rk a vs j = rk a vs' j := fun j hj => ih j fun i hi => h i (by have := List.mem_range.1 hj; omega)
      cases k
      · simp only [rk]
        rw [Bool.eq_iff_iff, List.all_eq_true, List.all_eq_true]
        exact ⟨fun q j hj => e j hj ▸ q j hj, fun q j hj => (e j hj).symm ▸ q j hj⟩
      · simp only [rk]
        rw [Bool.eq_iff_iff, List.any_eq_true, List.any_eq_true]
        exact ⟨fun ⟨j, hj, q⟩ => ⟨j, hj, e j hj ▸ q⟩, fun ⟨j, hj, q⟩ => ⟨j, hj, (e j hj).symm ▸ q⟩⟩
  intro f
  induction f with
  | var t =>
    intro vs vs' n _ ho hg
    have := ho t (by simp [Fm.occ])
    simp [gd, this] at hg
  | fls => intro vs vs' n _ _ _; rfl
  | bin k a b iha ihb =>
    intro vs vs' n h ho hg
    simp only [gd, Bool.and_eq_true] at hg
    have h1 := iha vs vs' n h (fun t ht => ho t (by simp only [Fm.occ, ht, Bool.true_or])) hg.1
    have h2 := ihb vs vs' n h (fun t ht => ho t (by simp only [Fm.occ, ht, Bool.or_true])) hg.2
    cases k <;> simp only [rk, h1, h2]
  | un k a ih =>
    intro vs vs' n h ho hg
    have e : ∀ j, j ∈ List.range n → rk a vs j = rk a vs' j := fun j hj => low a vs vs' j fun i hi => h i (by have := List.mem_range.1 hj; omega)
    cases k
    · simp only [rk]
      rw [Bool.eq_iff_iff, List.all_eq_true, List.all_eq_true]
      exact ⟨fun q j hj => e j hj ▸ q j hj, fun q j hj => (e j hj).symm ▸ q j hj⟩
    · simp only [rk]
      rw [Bool.eq_iff_iff, List.any_eq_true, List.any_eq_true]
      exact ⟨fun ⟨j, hj, q⟩ => ⟨j, hj, e j hj ▸ q⟩, fun ⟨j, hj, q⟩ => ⟨j, hj, (e j hj).symm ▸ q⟩⟩
/-- a formula put for the variable, at a rank -/
theorem rk_sub {s : Nat} {d : Fm} {N : Nat} : ∀ (f : Fm) (n : Nat), n < N → (∀ t, f.occ t = true → t = s) → rk (f.sub s d) 0 n = rk f (msk (rk d 0) N) n := by
  intro f
  induction f with
  | var t =>
    intro n hn ho
    rw [Fm.sub, if_pos (ho t (by simp [Fm.occ]))]
    simp only [rk, msk_testBit, decide_eq_true hn, Bool.true_and]
  | fls => intro n _ _; rfl
  | bin k a b iha ihb =>
    intro n hn ho
    have h1 := iha n hn fun t ht => ho t (by simp only [Fm.occ, ht, Bool.true_or])
    have h2 := ihb n hn fun t ht => ho t (by simp only [Fm.occ, ht, Bool.or_true])
    cases k <;> simp only [Fm.sub, rk, h1, h2]
  | un k a ih =>
    intro n hn ho
    have e : ∀ j, j ∈ List.range n → rk (a.sub s d) 0 j = rk a (msk (rk d 0) N) j := fun j hj => ih j (by have := List.mem_range.1 hj; omega) ho
    cases k
    · simp only [Fm.sub, rk]
      rw [Bool.eq_iff_iff, List.all_eq_true, List.all_eq_true]
      exact ⟨fun q j hj => e j hj ▸ q j hj, fun q j hj => (e j hj).symm ▸ q j hj⟩
    · simp only [Fm.sub, rk]
      rw [Bool.eq_iff_iff, List.any_eq_true, List.any_eq_true]
      exact ⟨fun ⟨j, hj, q⟩ => ⟨j, hj, e j hj ▸ q⟩, fun ⟨j, hj, q⟩ => ⟨j, hj, (e j hj).symm ▸ q⟩⟩
theorem fpS_grow (f : Fm) {n k : Nat} (hk : k < n) : ∀ m, n + m ≤ 61 → (fpS f (n + m)).testBit k = (fpS f n).testBit k
  | 0, _ => rfl
  | m + 1, h => by
    rw [← Nat.add_assoc, fpS_bit f (n + m) k (by omega), decide_eq_false (by omega), Bool.false_and, Bool.or_false]
    exact fpS_grow f hk m (by omega)
theorem fpS_at (f : Fm) {n : Nat} (hn : n < 61) : (fpS f 61).testBit n = rk f (fpS f n) n := by
  have h := fpS_grow f (n := n + 1) (k := n) (by omega) (60 - n) (by omega)
  rw [show n + 1 + (60 - n) = 61 by omega] at h
  rw [h, fpS_bit f n n hn, fpS_out f n n (Nat.le_refl _) (by omega), decide_eq_true rfl, Bool.false_or, Bool.true_and]
theorem fpS_low (f : Fm) {n k : Nat} (hk : k < n) (hn : n ≤ 61) : (fpS f n).testBit k = (fpS f 61).testBit k := by
  have h := fpS_grow f hk (61 - n) (by omega)
  rw [show n + (61 - n) = 61 by omega] at h
  exact h.symm
/-- what solves the equation at each rank is the solution -/
theorem fpS_uniq {f d : Fm} {s : Nat} (hg : gd f s = true) (ho : ∀ t, f.occ t = true → t = s) (h : ∀ n, n < 61 → rk d 0 n = rk (f.sub s d) 0 n) : ∀ n, n < 61 → rk d 0 n = (fpS f 61).testBit n := by
  intro n
  induction n using Nat.strongRecOn with
  | _ n ih =>
    intro hn
    rw [h n hn, rk_sub (N := 61) f n hn ho, fpS_at f hn]
    refine rk_low f _ _ n (fun k hk => ?_) ho hg
    rw [msk_testBit, decide_eq_true (show k < 61 by omega), Bool.true_and, ih k hk (by omega), fpS_low f hk (by omega)]
/-- the solution solves the equation -/
theorem fpS_sol {f d : Fm} {s : Nat} (hg : gd f s = true) (ho : ∀ t, f.occ t = true → t = s) (h : ∀ n, n < 61 → rk d 0 n = (fpS f 61).testBit n) : ∀ n, n < 61 → rk (f.sub s d) 0 n = rk d 0 n := by
  intro n hn
  rw [rk_sub (N := 61) f n hn ho, h n hn, fpS_at f hn]
  refine rk_low f _ _ n (fun k hk => ?_) ho hg
  rw [msk_testBit, decide_eq_true (show k < 61 by omega), Bool.true_and, h k (by omega), fpS_low f hk (by omega)]
/-- letterless formulas alike at 61 ranks are equivalent in GL -/
theorem alike_thB {f g : Fm} (hf : f.novar = true) (hg : g.novar = true) (hlf : (enc f).length ≤ 40) (hlg : (enc g).length ≤ 40) (h : ∀ n, n < 61 → rk f 0 n = rk g 0 n) : thB [f] [g] = true :=
  thB_of (fun x hx => by
    rcases List.mem_append.1 hx with hx | hx
    · rw [List.mem_singleton.1 hx]; exact novar_ok f hf
    · rw [List.mem_singleton.1 hx]; exact novar_ok g hg) fun W Q hQ V x hl => by
    obtain ⟨n, hn, e⟩ := sat_some hQ V 60 x
    have e1 := e f hf (by have := mdp_len f; omega)
    have e2 := e g hg (by have := mdp_len g; omega)
    refine ⟨g, List.mem_singleton.2 rfl, e2.2 ?_⟩
    rw [← h n (by omega)]
    exact e1.1 (hl f (List.mem_singleton.2 rfl))
/-- a letterless formula is a theorem of GL exactly if it is true at 61 ranks -/
theorem all_thB {f : Fm} (hf : f.novar = true) (hlf : (enc f).length ≤ 40) : thB [] [f] = true ↔ ∀ n, n < 61 → rk f 0 n = true := by
  have hok : ∀ x ∈ [] ++ [f], x.ok = true := fun x hx => by rw [List.mem_singleton.1 hx]; exact novar_ok f hf
  constructor
  · intro h n _
    obtain ⟨g, hg, hs⟩ := thB_valid hok h chain_glm (fun _ _ => False) n (fun g hg => by cases hg)
    rw [List.mem_singleton.1 hg] at hs
    exact (sat_chain0 hf _ n).1 hs
  · intro h
    refine thB_of hok fun W Q hQ V x _ => ⟨f, List.mem_singleton.2 rfl, ?_⟩
    obtain ⟨n, hn, e⟩ := sat_some hQ V 60 x
    exact (e f hf (by have := mdp_len f; omega)).2 (h n (by omega))
/-- the built fixed point is one, in GL -/
theorem bld_thB {f d : Fm} {s : Nat} (hf : f.ok = true) (hd : d.ok = true) (hg : gd f s = true) (h : fpB f s = some d) : thB [d] [f.sub s d] = true ∧ thB [f.sub s d] [d] = true := by
  have hm := sub_ok (s := s) hf hd
  have key : ∀ (W : Type) (Q : W → W → Prop), GLM Q → ∀ V x, (sat Q V (f.sub s d) x ↔ sat Q V d x) := fun W Q hQ V x => by
    rw [sat_sub V s d f x]
    exact sat_built hQ V _ f d hg (Nat.le_refl _) h x
  constructor
  · exact thB_of (fun x hx => by rcases List.mem_append.1 hx with hx | hx <;> rw [List.mem_singleton.1 hx] <;> assumption) fun W Q hQ V x hl => ⟨_, List.mem_singleton.2 rfl, (key W Q hQ V x).2 (hl _ (List.mem_singleton.2 rfl))⟩
  · exact thB_of (fun x hx => by rcases List.mem_append.1 hx with hx | hx <;> rw [List.mem_singleton.1 hx] <;> assumption) fun W Q hQ V x hl => ⟨_, List.mem_singleton.2 rfl, (key W Q hQ V x).1 (hl _ (List.mem_singleton.2 rfl))⟩
/-- at ranks too -/
theorem bld_rk {f d : Fm} {s : Nat} (hg : gd f s = true) (ho : ∀ t, f.occ t = true → t = s) (h : fpB f s = some d) : d.novar = true ∧ ∀ n, n < 61 → rk d 0 n = (fpS f 61).testBit n := by
  have hv : d.novar = true := occ_novar fun t => by
    cases e : d.occ t with
    | false => rfl
    | true =>
      have := bld_occ _ f d hg (Nat.le_refl _) h t e
      exact absurd (ho t this.1) this.2
  have hvm : (f.sub s d).novar = true := occ_novar fun t => by
    cases e : (f.sub s d).occ t with
    | false => rfl
    | true =>
      rcases sub_occ e with e | e
      · exact absurd (ho t e.1) e.2
      · rw [novar_occ hv] at e; cases e
  refine ⟨hv, fpS_uniq hg ho fun n hn => ?_⟩
  have := sat_built chain_glm (fun _ _ => False) _ f d hg (Nat.le_refl _) h n
  rw [← sat_sub, sat_chain0 hvm, sat_chain0 hv] at this
  rw [Bool.eq_iff_iff]
  exact this.symm
end Go.Proofs.YtgcoohlakcncbaaGreat

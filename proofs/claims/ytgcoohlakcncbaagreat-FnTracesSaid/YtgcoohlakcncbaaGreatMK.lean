/- Plain law: letterless formulas in the models of GL are what they are at ranks. No program in sight. -/
import Derived.Test.YtgcoohlakcncbaaGreatJC
import Derived.Test.YtgcoohlakcncbaaGreatB2
import Derived.Test.YtgcoohlakcncbaaGreatJF
import Derived.Test.YtgcoohlakcncbaaGreatM32U
namespace Go.Proofs.YtgcoohlakcncbaaGreat
open Go.RowKit
set_option linter.unusedVariables false
/-- the depth of modal operators -/
def mdp : Fm → Nat
  | .var _ => 0
  | .fls => 0
  | .bin _ a b => max (mdp a) (mdp b)
  | .un _ a => mdp a + 1
theorem mdp_len : ∀ f : Fm, mdp f ≤ (enc f).length
  | .var _ => Nat.zero_le _
  | .fls => Nat.zero_le _
  | .bin _ a b => by have := mdp_len a; have := mdp_len b; simp only [mdp, enc, List.length_cons, List.length_append]; omega
  | .un _ a => by have := mdp_len a; simp only [mdp, enc, List.length_cons]; omega
theorem range_all_succ (p : Nat → Bool) (n : Nat) : (List.range (n + 1)).all p = ((List.range n).all p && p n) := by rw [List.range_succ, List.all_append]; simp
theorem range_any_succ (p : Nat → Bool) (n : Nat) : (List.range (n + 1)).any p = ((List.range n).any p || p n) := by rw [List.range_succ, List.any_append]; simp
/-- behind its depth a letterless formula's value stays -/
theorem rk_next : ∀ (f : Fm) (n : Nat), mdp f ≤ n → rk f 0 (n + 1) = rk f 0 n := by
  intro f
  induction f with
  | var t => intro n _; simp [rk]
  | fls => intro n _; rfl
  | bin k a b iha ihb =>
    intro n h
    simp only [mdp] at h
    have h1 := iha n (by omega)
    have h2 := ihb n (by omega)
    cases k <;> simp only [rk, h1, h2]
  | un k a ih =>
    intro n h
    simp only [mdp] at h
    obtain ⟨m, rfl⟩ : ∃ m, n = m + 1 := ⟨n - 1, by omega⟩
    have h1 := ih m (by omega)
    cases k
    · simp only [rk]
      rw [range_all_succ (rk a 0) (m + 1), h1, range_all_succ (rk a 0) m, Bool.and_assoc, Bool.and_self]
    · simp only [rk]
      rw [range_any_succ (rk a 0) (m + 1), h1, range_any_succ (rk a 0) m, Bool.or_assoc, Bool.or_self]
theorem rk_stay (f : Fm) (n : Nat) (h : mdp f ≤ n) : ∀ k, rk f 0 (n + k) = rk f 0 n
  | 0 => rfl
  | k + 1 => by rw [← Nat.add_assoc, rk_next f (n + k) (by omega)]; exact rk_stay f n h k
/-- a chain of n steps starts at a world -/
def Hgt {W : Type} (R : W → W → Prop) : Nat → W → Prop
  | 0, _ => True
  | n + 1, x => ∃ y, R x y ∧ Hgt R n y
theorem Hgt.pred {W : Type} {R : W → W → Prop} (h : GLM R) : ∀ {n : Nat} {x : W}, Hgt R (n + 1) x → Hgt R n x
  | 0, _, _ => trivial
  | n + 1, x, ⟨y, hxy, z, hyz, hz⟩ => ⟨z, h.tra _ _ _ hxy hyz, hz⟩
theorem Hgt.le {W : Type} {R : W → W → Prop} (h : GLM R) {n : Nat} {x : W} (hx : Hgt R n x) : ∀ {m : Nat}, m ≤ n → Hgt R m x := by
  intro m hm
  obtain ⟨k, rfl⟩ := Nat.exists_eq_add_of_le hm
  clear hm
  induction k with
  | zero => exact hx
  | succ k ih => exact ih (Hgt.pred h hx)
/-- each smaller rank is seen -/
theorem Hgt.sees {W : Type} {R : W → W → Prop} (h : GLM R) {n k : Nat} {x : W} (hx : Hgt R n x) (hk : k < n) : ∃ y, R x y ∧ Hgt R k y ∧ ¬ Hgt R (k + 1) y := by
  obtain ⟨y, h1, h2⟩ : Hgt R (k + 1) x := hx.le h (by omega)
  obtain ⟨y, h1, h2, h3⟩ := h.last (Hgt R k) x ⟨y, h1, h2⟩
  exact ⟨y, h1, h2, fun ⟨z, hz, hk⟩ => h3 z hz hk⟩
theorem Hgt.rank {W : Type} {R : W → W → Prop} : ∀ {N : Nat} {x : W}, ¬ Hgt R N x → ∃ j, j < N ∧ Hgt R j x ∧ ¬ Hgt R (j + 1) x
  | 0, x, h => absurd trivial h
  | N + 1, x, h => by
    by_cases h1 : Hgt R N x
    · exact ⟨N, by omega, h1, h⟩
    · obtain ⟨j, hj, h2⟩ := Hgt.rank h1
      exact ⟨j, by omega, h2⟩
/-- a letterless formula at a world is what it is at the world's rank -/
theorem sat_rk {W : Type} {R : W → W → Prop} (h : GLM R) (V : Nat → W → Prop) : ∀ (f : Fm), f.novar = true → ∀ K, mdp f ≤ K → ∀ x,
    (∀ n, n < K → Hgt R n x → ¬ Hgt R (n + 1) x → (sat R V f x ↔ rk f 0 n = true)) ∧ (Hgt R K x → (sat R V f x ↔ rk f 0 K = true)) := by
  intro f
  induction f with
  | var t => intro hv; cases hv
  | fls => intro _ K _ x; exact ⟨fun n _ _ _ => ⟨fun h => h.elim, fun h => by cases h⟩, fun _ => ⟨fun h => h.elim, fun h => by cases h⟩⟩
  | bin k a b iha ihb =>
    intro hv K hK x
    simp only [Fm.novar, Bool.and_eq_true] at hv
    simp only [mdp] at hK
    have h1 := iha hv.1 K (by omega) x
    have h2 := ihb hv.2 K (by omega) x
    have key : ∀ n, (sat R V a x ↔ rk a 0 n = true) → (sat R V b x ↔ rk b 0 n = true) → (sat R V (.bin k a b) x ↔ rk (.bin k a b) 0 n = true) := by
      intro n e1 e2
      cases k <;> simp only [sat, rk, e1, e2] <;> cases rk a 0 n <;> cases rk b 0 n <;> simp
    exact ⟨fun n hn hx hx' => key n (h1.1 n hn hx hx') (h2.1 n hn hx hx'), fun hx => key K (h1.2 hx) (h2.2 hx)⟩
  | un k a ih =>
    intro hv K hK x
    have hv : a.novar = true := hv
    simp only [mdp] at hK
    have IH := ih hv K (by omega)
    -- the values at successors are those at the ranks seen
    have key : ∀ n, n ≤ K → (∀ y, R x y → ∃ j, j < n ∧ (sat R V a y ↔ rk a 0 j = true)) → (∀ j, j < n → ∃ y, R x y ∧ (sat R V a y ↔ rk a 0 j = true)) → (sat R V (.un k a) x ↔ rk (.un k a) 0 n = true) := by
      intro n _ e1 e2
      cases k
      · simp only [sat, rk, List.all_eq_true, List.mem_range]
        constructor
        · intro hb j hj
          obtain ⟨y, hy, e⟩ := e2 j hj
          exact e.1 (hb y hy)
        · intro hb y hy
          obtain ⟨j, hj, e⟩ := e1 y hy
          exact e.2 (hb j hj)
      · simp only [sat, rk, List.any_eq_true, List.mem_range]
        constructor
        · rintro ⟨y, hy, hs⟩
          obtain ⟨j, hj, e⟩ := e1 y hy
          exact ⟨j, hj, e.1 hs⟩
        · rintro ⟨j, hj, hs⟩
          obtain ⟨y, hy, e⟩ := e2 j hj
          exact ⟨y, hy, e.2 hs⟩
    refine ⟨fun n hn hx hx' => key n (by omega) (fun y hy => ?_) fun j hj => ?_, fun hx => key K (Nat.le_refl _) (fun y hy => ?_) fun j hj => ?_⟩
    · obtain ⟨j, hj, h1, h2⟩ := Hgt.rank (N := n) (x := y) fun e => hx' ⟨y, hy, e⟩
      exact ⟨j, hj, (IH y).1 j (by omega) h1 h2⟩
    · obtain ⟨y, hy, h1, h2⟩ := hx.sees h hj
      exact ⟨y, hy, (IH y).1 j (by omega) h1 h2⟩
    · by_cases hy2 : Hgt R K y
      · refine ⟨K - 1, by omega, ?_⟩
        have e := (IH y).2 hy2
        have e2 := rk_next a (K - 1) (by omega)
        rw [Nat.sub_add_cancel (by omega)] at e2
        rw [e, e2]
      · obtain ⟨j, hj, h1, h2⟩ := Hgt.rank hy2
        exact ⟨j, hj, (IH y).1 j hj h1 h2⟩
    · obtain ⟨y, hy, h1, h2⟩ := hx.sees h hj
      exact ⟨y, hy, (IH y).1 j hj h1 h2⟩
/-- some rank up to a bound tells a letterless formula's value -/
theorem sat_some {W : Type} {R : W → W → Prop} (h : GLM R) (V : Nat → W → Prop) (K : Nat) (x : W) : ∃ n, n ≤ K ∧ ∀ f : Fm, f.novar = true → mdp f ≤ K → (sat R V f x ↔ rk f 0 n = true) := by
  by_cases hx : Hgt R K x
  · exact ⟨K, Nat.le_refl _, fun f hv hK => (sat_rk h V f hv K hK x).2 hx⟩
  · obtain ⟨j, hj, h1, h2⟩ := Hgt.rank hx
    exact ⟨j, by omega, fun f hv hK => (sat_rk h V f hv K hK x).1 j hj h1 h2⟩
/-- the chain of all ranks -/
theorem chain_glm : GLM (fun x y : Nat => y < x) := ⟨fun x y z h1 h2 => Nat.lt_trans h2 h1, Nat.lt_wfRel.wf⟩
theorem sat_chain (V : Nat → Nat → Prop) (vs : Nat) : ∀ (f : Fm) (n : Nat), (∀ t, f.occ t = true → ∀ x, x ≤ n → (V t x ↔ vs.testBit x = true)) → (sat (fun x y : Nat => y < x) V f n ↔ rk f vs n = true) := by
  intro f
  induction f with
  | var t => intro n hV; exact hV t (by simp [Fm.occ]) n (Nat.le_refl _)
  | fls => intro n _; exact ⟨fun h => h.elim, fun h => by cases h⟩
  | bin k a b iha ihb =>
    intro n hV
    have h1 := iha n fun t ht => hV t (by simp [Fm.occ, ht])
    have h2 := ihb n fun t ht => hV t (by simp [Fm.occ, ht])
    cases k <;> simp only [sat, rk, h1, h2] <;> cases rk a vs n <;> cases rk b vs n <;> simp
  | un k a ih =>
    intro n hV
    have h1 : ∀ j, j < n → (sat (fun x y : Nat => y < x) V a j ↔ rk a vs j = true) := fun j hj => ih j fun t ht x hx => hV t ht x (by omega)
    cases k
    · simp only [sat, rk, List.all_eq_true, List.mem_range]
      exact ⟨fun h j hj => (h1 j hj).1 (h j hj), fun h j hj => (h1 j hj).2 (h j hj)⟩
    · simp only [sat, rk, List.any_eq_true, List.mem_range]
      exact ⟨fun ⟨j, hj, h⟩ => ⟨j, hj, (h1 j hj).1 h⟩, fun ⟨j, hj, h⟩ => ⟨j, hj, (h1 j hj).2 h⟩⟩
theorem novar_occ : ∀ {f : Fm} {t : Nat}, f.novar = true → f.occ t = false
  | .var _, _, h => by cases h
  | .fls, _, _ => rfl
  | .bin _ a b, t, h => by
    simp only [Fm.novar, Bool.and_eq_true] at h
    simp only [Fm.occ, novar_occ (t := t) h.1, novar_occ (t := t) h.2, Bool.or_self]
  | .un _ a, t, h => novar_occ (f := a) h
theorem occ_novar : ∀ {f : Fm}, (∀ t, f.occ t = false) → f.novar = true
  | .var s, h => by have := h s; simp [Fm.occ] at this
  | .fls, _ => rfl
  | .bin _ a b, h => by
    have h1 : a.novar = true := occ_novar fun t => by have := h t; simp only [Fm.occ, Bool.or_eq_false_iff] at this; exact this.1
    have h2 : b.novar = true := occ_novar fun t => by have := h t; simp only [Fm.occ, Bool.or_eq_false_iff] at this; exact this.2
    simp only [Fm.novar, h1, h2, Bool.and_self]
  | .un _ a, h => occ_novar (f := a) h
theorem sat_chain0 {f : Fm} (hv : f.novar = true) (V : Nat → Nat → Prop) (n : Nat) : sat (fun x y : Nat => y < x) V f n ↔ rk f 0 n = true :=
  sat_chain V 0 f n fun t ht => by rw [novar_occ hv] at ht; cases ht
theorem trOf_in (p : Nat → Bool) (n : Nat) : (n : Int) ∈ trOf p ↔ n < 61 ∧ (p n == !p 60) = true := by
  unfold trOf trTo
  rw [List.mem_map]
  constructor
  · rintro ⟨i, hi, e⟩
    obtain ⟨h1, h2⟩ := List.mem_filter.1 hi
    have : i = n := by omega
    subst this
    exact ⟨List.mem_range.1 h1, h2⟩
  · rintro ⟨h1, h2⟩
    exact ⟨n, List.mem_filter.2 ⟨List.mem_range.2 h1, h2⟩, rfl⟩
theorem trOf_nat {p : Nat → Bool} {x : Int} (h : x ∈ trOf p) : 0 ≤ x := by
  unfold trOf trTo at h
  obtain ⟨i, -, rfl⟩ := List.mem_map.1 h
  omega
theorem trOf_eq {p q : Nat → Bool} (h : ∀ n, n < 61 → p n = q n) : trOf p = trOf q := by
  unfold trOf trTo
  rw [h 60 (by omega)]
  congr 1
  exact List.filter_congr fun n hn => by rw [h n (List.mem_range.1 hn)]
/-- the formula of a trace has its ranks -/
theorem oF_at (p : Nat → Bool) {n : Nat} (hn : n < 61) : rk (oF (!p 60) (trOf p)) 0 n = p n := by
  rw [oF_rk _ _ fun x hx => trOf_nat hx]
  have e : decide ((n : Int) ∈ trOf p) = (p n == !p 60) := by
    rw [Bool.eq_iff_iff, decide_eq_true_iff, trOf_in]
    exact ⟨fun h => h.2, fun h => ⟨hn, h⟩⟩
  rw [e]
  cases p n <;> cases p 60 <;> rfl
/-- letterless formulas alike at 61 ranks are equivalent in GL -/
theorem alike_thB {f g : Fm} (hf : f.novar = true) (hg : g.novar = true) (hlf : (enc f).length ≤ 40) (hlg : (enc g).length ≤ 40) (h : ∀ n, n < 61 → rk f 0 n = rk g 0 n) : thB [f] [g] = true :=
  thB_of (fun x hx => by
    rcases List.mem_append.1 hx with hx | hx
    · rw [List.mem_singleton.1 hx]; exact novar_ok f hf
    · rw [List.mem_singleton.1 hx]; exact novar_ok g hg) fun W Q hQ V x hl => by
    obtain ⟨n, hn, e⟩ := sat_some hQ V 60 x
    have e1 := e f hf (by have := mdp_len f; omega)
    have e2 := e g hg (by have := mdp_len g; omega)
    refine ⟨g, List.mem_singleton.2 rfl, e2.2 ?_⟩
    rw [← h n (by omega)]
    exact e1.1 (hl f (List.mem_singleton.2 rfl))
/-- a letterless formula is a theorem of GL exactly if it is true at 61 ranks -/
theorem all_thB {f : Fm} (hf : f.novar = true) (hlf : (enc f).length ≤ 40) : thB [] [f] = true ↔ ∀ n, n < 61 → rk f 0 n = true := by
  have hok : ∀ x ∈ [] ++ [f], x.ok = true := fun x hx => by rw [List.mem_singleton.1 hx]; exact novar_ok f hf
  constructor
  · intro h n _
    obtain ⟨g, hg, hs⟩ := thB_valid hok h chain_glm (fun _ _ => False) n (fun g hg => by cases hg)
    rw [List.mem_singleton.1 hg] at hs
    exact (sat_chain0 hf _ n).1 hs
  · intro h
    refine thB_of hok fun W Q hQ V x _ => ⟨f, List.mem_singleton.2 rfl, ?_⟩
    obtain ⟨n, hn, e⟩ := sat_some hQ V 60 x
    exact (e f hf (by have := mdp_len f; omega)).2 (h n (by omega))
end Go.Proofs.YtgcoohlakcncbaaGreat

/- Plain law: orders that are drawn: numbers in another order, a root below, what an order builds. No program in sight. -/
import Derived.Test.YtgkogfjifcfkoaaGreatY33
import Derived.Test.YtgkogfjifcfkoaaGreatY36
import Derived.Test.YtgkogfjifcfkoaaGreatY38
namespace Go.Proofs.YtgkogfjifcfkoaaGreat
open Go.RowKit
set_option linter.unusedVariables false
set_option linter.unusedSimpArgs false
theorem nodup_ltH : ∀ (n : Nat) (l : List Nat), l.Nodup → (∀ x ∈ l, x < n) → l.length ≤ n
  | 0, l, _, h => by
    cases l with
    | nil => exact Nat.le_refl _
    | cons x l => exact absurd (h x (List.mem_cons_self ..)) (by omega)
  | n + 1, l, hd, h => by
    have h1 := nodup_ltH n (l.erase n) (hd.erase n) fun x hx => by
      have h2 := (hd.mem_erase_iff).1 hx
      have := h x h2.2
      have := h2.1
      omega
    have h2 : l.length ≤ (l.erase n).length + 1 := by
      rw [List.length_erase]
      split <;> omega
    omega
/-- an order of the numbers below n -/
structure Prm (n : Nat) (os : List Nat) : Prop where
  l : os.length = n
  b : ∀ x ∈ os, x < n
  i : ∀ a c, a < n → c < n → os.getD a 0 = os.getD c 0 → a = c
theorem Prm.lt {n : Nat} {os : List Nat} (h : Prm n os) {a : Nat} (ha : a < n) : os.getD a 0 < n := h.b _ (getD_mem (by rw [h.l]; exact ha))
theorem Prm.sur {n : Nat} {os : List Nat} (h : Prm n os) {v : Nat} (hv : v < n) : ∃ a, a < n ∧ os.getD a 0 = v := by
  have hl := h.l
  by_cases hm : v ∈ os
  · obtain ⟨a, ha, e⟩ := mem_at hm
    exact ⟨a, by omega, e⟩
  · have hnd : os.Nodup := by
      show List.Pairwise _ os
      rw [List.pairwise_iff_getElem]
      intro i j hi hj hij e
      have := h.i i j (by omega) (by omega) (by rw [getD_at hi, getD_at hj]; exact e)
      omega
    have := nodup_ltH n (v :: os) (List.nodup_cons.2 ⟨hm, hnd⟩) (fun x hx => by
      rcases List.mem_cons.1 hx with h1 | h1
      · rw [h1]; exact hv
      · exact h.b x h1)
    rw [List.length_cons, h.l] at this
    omega
theorem Prm.range (n : Nat) : Prm n (List.range n) := by
  refine ⟨List.length_range, fun x hx => List.mem_range.1 hx, fun a c ha hc e => ?_⟩
  rw [getD_at (by rw [List.length_range]; exact ha), getD_at (by rw [List.length_range]; exact hc), List.getElem_range, List.getElem_range] at e
  exact e
theorem swap_at {os : List Nat} {i k a : Nat} (hi : i < os.length) (hk : k < os.length) (ha : a < os.length) :
    ((os.set i (os.getD k 0)).set k (os.getD i 0)).getD a 0 = os.getD (if a = k then i else if a = i then k else a) 0 := by
  rw [List.getD_eq_getElem?_getD, List.getElem?_set]
  by_cases h1 : k = a
  · rw [if_pos h1, if_pos (by rw [List.length_set]; omega), if_pos h1.symm]
    rfl
  · rw [if_neg h1, List.getElem?_set, if_neg (show ¬ a = k from fun e => h1 e.symm)]
    by_cases h2 : i = a
    · rw [if_pos h2, if_pos (by omega), if_pos h2.symm]
      rfl
    · rw [if_neg h2, if_neg (show ¬ a = i from fun e => h2 e.symm), ← List.getD_eq_getElem?_getD]
theorem mem_set_all {os : List Nat} {n : Nat} (h : ∀ x ∈ os, x < n) (i y : Nat) (hy : y < n) : ∀ x ∈ os.set i y, x < n := fun x hx => by
  rcases List.mem_or_eq_of_mem_set hx with h1 | h1
  · exact h x h1
  · rw [h1]; exact hy
theorem Prm.swap {n : Nat} {os : List Nat} (h : Prm n os) {i k : Nat} (hi : i < n) (hk : k < n) : Prm n ((os.set i (os.getD k 0)).set k (os.getD i 0)) := by
  have hl := h.l
  refine ⟨by rw [List.length_set, List.length_set, hl], mem_set_all (mem_set_all h.b _ _ (h.lt hk)) _ _ (h.lt hi), fun a c ha hc e => ?_⟩
  rw [swap_at (by omega) (by omega) (by omega), swap_at (by omega) (by omega) (by omega)] at e
  have := h.i _ _ (by split; · omega
                      · split <;> omega) (by split; · omega
                                             · split <;> omega) e
  by_cases a1 : a = k
  · rw [if_pos a1] at this
    by_cases c1 : c = k
    · omega
    · rw [if_neg c1] at this
      by_cases c2 : c = i
      · rw [if_pos c2] at this; omega
      · rw [if_neg c2] at this; omega
  · rw [if_neg a1] at this
    by_cases c1 : c = k
    · rw [if_pos c1] at this
      by_cases a2 : a = i
      · rw [if_pos a2] at this; omega
      · rw [if_neg a2] at this; omega
    · rw [if_neg c1] at this
      by_cases a2 : a = i
      · rw [if_pos a2] at this
        by_cases c2 : c = i
        · omega
        · rw [if_neg c2] at this; omega
      · rw [if_neg a2] at this
        by_cases c2 : c = i
        · rw [if_pos c2] at this; omega
        · rw [if_neg c2] at this; exact this
/-- squeezing -/
def sqM (m : Nat) (os : List Nat) (k : Nat) : Nat := msk (fun i => m.testBit (os.getD i 0)) k
def rnM (ns os : List Nat) : List Nat := os.map fun x => sqM (ns.getD x 0) os os.length
theorem rnM_length (ns os : List Nat) : (rnM ns os).length = os.length := by simp [rnM]
theorem rnM_getD (ns os : List Nat) {i : Nat} (hi : i < os.length) : (rnM ns os).getD i 0 = sqM (ns.getD (os.getD i 0) 0) os os.length := by
  unfold rnM
  rw [List.getD_eq_getElem?_getD, List.getElem?_map, List.getElem?_eq_getElem hi, getD_at hi]
  rfl
theorem rnM_le {ns os : List Nat} {i j : Nat} (hi : i < os.length) : Le (rnM ns os) i j ↔ j < os.length ∧ Le ns (os.getD i 0) (os.getD j 0) := by
  unfold Le
  rw [rnM_getD ns os hi, sqM, msk_testBit, Bool.and_eq_true, decide_eq_true_eq]
theorem rnM_rel (ns : List Nat) {os : List Nat} (h30 : os.length ≤ 30) : RelM (rnM ns os) := by
  refine ⟨by rw [rnM_length]; exact h30, fun x hx => ?_⟩
  obtain ⟨y, hy, rfl⟩ := List.mem_map.1 hx
  rw [rnM_length]
  exact msk_lt _ _
theorem Hx_rnM {ns os : List Nat} (h : Hx ns) (hp : Prm ns.length os) : Hx (rnM ns os) :=
  Hx_ren h (by rw [rnM_length, hp.l]) (rnM_rel ns (by rw [hp.l]; exact h.r.1)) (fun i => os.getD i 0) (fun i hi => hp.lt hi) (fun j hj => hp.sur hj) hp.i (fun i j hi hj => by
    rw [rnM_le (by rw [hp.l]; exact hi), hp.l]
    exact ⟨fun q => q.2, fun q => ⟨hj, q⟩⟩)
/-- each one is below itself -/
def Rfl (ns : List Nat) : Prop := ∀ x, x < ns.length → Le ns x x
theorem Rfl_ren {ns os : List Nat} (h : Rfl ns) (hp : Prm ns.length os) : Rfl (rnM ns os) := fun x hx => by
  rw [rnM_length] at hx
  exact (rnM_le hx).2 ⟨hx, h _ (hp.lt (by rw [← hp.l]; exact hx))⟩
theorem Rfl_clo (ms : List Nat) : Rfl (clo (rfx ms) (rfx ms).length) := fun x hx => by
  rw [clo_length, rfx_length] at hx
  refine clo_sub (rfx ms) _ x x ?_
  unfold se rfx
  rw [List.getD_eq_getElem?_getD, List.getElem?_map, List.getElem?_range hx]
  show (ms.getD x 0 ||| 2 ^ x).testBit x = true
  rw [Nat.testBit_or, Nat.testBit_two_pow_self, Bool.or_true]
theorem RelM_of_N {ns : List Nat} (h : RelN ns) : RelM ns := ⟨Nat.le_trans h.1 (by decide), h.2⟩
theorem RelN_of_M {ns : List Nat} (h : RelM ns) (h8 : ns.length ≤ 8) : RelN ns := ⟨h8, h.2⟩
/-- a root below an order -/
def jn (ns : List Nat) : List Nat := (2 ^ (ns.length + 1) - 1) :: ns.map fun x => x * 2
theorem jn_length (ns : List Nat) : (jn ns).length = ns.length + 1 := by simp [jn]
theorem jn_rel {ns : List Nat} (h : RelN ns) (h7 : ns.length ≤ 7) : RelN (jn ns) := by
  refine ⟨by rw [jn_length]; omega, fun x hx => ?_⟩
  rw [jn_length]
  rcases List.mem_cons.1 hx with h1 | h1
  · have : 0 < 2 ^ (ns.length + 1) := Nat.pow_pos (by decide)
    omega
  · obtain ⟨y, hy, rfl⟩ := List.mem_map.1 h1
    have := h.2 y hy
    rw [Nat.pow_succ]
    omega
theorem jn_rfl {ns : List Nat} (h : Rfl ns) : Rfl (jn ns) := fun x hx => by
  rw [jn_length] at hx
  cases x with
  | zero =>
    show (2 ^ (ns.length + 1) - 1).testBit 0 = true
    rw [Nat.testBit_two_pow_sub_one]
    exact decide_eq_true (by omega)
  | succ x =>
    show ((ns.map fun x => x * 2).getD x 0).testBit (x + 1) = true
    have hx' : x < ns.length := by omega
    rw [List.getD_eq_getElem?_getD, List.getElem?_map, List.getElem?_eq_getElem hx']
    show (ns[x] * 2).testBit (x + 1) = true
    rw [Nat.testBit_succ, Nat.mul_div_cancel _ (by decide), ← getD_at hx']
    exact h x hx'
/-- a table of small numbers -/
theorem tab_nat {n : Nat} {f : Nat → Nat → Int} (h : ∀ x y, x < n → y < n → ∃ a : Nat, f x y = a ∧ a < n) :
    ∃ A : List (List Nat), tabI f n n = lil A ∧ TabN n A ∧ ∀ x y, x < n → y < n → f x y = ((ent A x y : Nat) : Int) := by
  have hE : ∀ x y, x < n → y < n → ent ((List.range n).map fun x => (List.range n).map fun y => (f x y).toNat) x y = (f x y).toNat := fun x y hx hy => by
    unfold ent
    rw [List.getD_eq_getElem?_getD, List.getD_eq_getElem?_getD, List.getElem?_map, List.getElem?_range hx]
    show ((((List.range n).map fun y => (f x y).toNat)[y]?).getD 0) = _
    rw [List.getElem?_map, List.getElem?_range hy]
    rfl
  have hT : TabN n ((List.range n).map fun x => (List.range n).map fun y => (f x y).toNat) := by
    refine ⟨by simp, fun r hr => ?_⟩
    obtain ⟨x, hx, rfl⟩ := List.mem_map.1 hr
    refine ⟨by simp, fun z hz => ?_⟩
    obtain ⟨y, hy, rfl⟩ := List.mem_map.1 hz
    obtain ⟨a, ha, hl⟩ := h x y (List.mem_range.1 hx) (List.mem_range.1 hy)
    show (f x y).toNat < n
    omega
  have hF : ∀ x y, x < n → y < n → f x y = ((ent ((List.range n).map fun x => (List.range n).map fun y => (f x y).toNat) x y : Nat) : Int) := fun x y hx hy => by
    rw [hE x y hx hy]
    obtain ⟨a, ha, hl⟩ := h x y hx hy
    omega
  exact ⟨_, (tab_eq hT hF).symm, hT, hF⟩
/-- the meets that an order builds have that order -/
theorem built_A {ns : List Nat} (h : HA ns) : ∃ A : List (List Nat), tabI (fA ns) ns.length ns.length = lil A ∧ TabN ns.length A ∧ ordH A = ns := by
  obtain ⟨A, e, hT, hF⟩ := tab_nat (n := ns.length) (f := fA ns) fun x y hx hy => by
    obtain ⟨a, ea, al, -⟩ := h.A x y hx hy
    exact ⟨a, ea, al⟩
  refine ⟨A, e, hT, ?_⟩
  have hl := hT.l
  apply List.ext_getElem
  · rw [ordH_length, hl]
  · intro x h1 h2
    have hx : x < A.length := by omega
    rw [← getD_at h1, ← getD_at h2]
    refine msk_ext ns.length ?_ (getD_lt h.r.2 x) fun y hy => ?_
    · rw [ordH_getD A hx, hl]
      exact msk_lt _ _
    · rw [Bool.eq_iff_iff]
      show Le (ordH A) x y ↔ Le ns x y
      rw [le_ord hx]
      obtain ⟨a, ea, al, aa⟩ := h.A x y h2 hy
      rw [hF x y h2 hy] at ea
      have ea' : ent A x y = a := Int.ofNat_inj.1 ea
      rw [ea']
      constructor
      · rintro ⟨-, q⟩
        subst q
        exact ((aa a al).1 (h.rf a al)).2
      · intro q
        exact ⟨by omega, h.an _ _ al h2 ((aa a al).1 (h.rf a al)).1 ((aa x h2).2 ⟨h.rf x h2, q⟩)⟩
theorem built_sz (ns : List Nat) (h : ns.length ≤ 30) : SzH (tabI (fA ns) ns.length ns.length) (tabI (fO ns) ns.length ns.length) (tabI (fI ns) ns.length ns.length) :=
  ⟨tabI_sz _ _ _ h h, tabI_sz _ _ _ h h, tabI_sz _ _ _ h h⟩
end Go.Proofs.YtgkogfjifcfkoaaGreat

/- Joined of several texts: M14, M14m. -/
import Derived.Test.YtkllbehdmlbhaaaSA
import Derived.Test.Ytkllbehdmlbhaaa06t
import Derived.Test.YtkllbehdmlbhaaaLA
import Derived.Maps.OwnSet
import Derived.StringKeys
namespace Go.Proofs.Ytkllbehdmlbhaaa
open Go.RowKit
set_option linter.unusedVariables false
set_option linter.unusedSimpArgs false
/- Plain words of chapter 14: the parts of a formula, the classes of alike worlds, what a filtration allows. No program in sight. -/
/-- the part of a formula at an index -/
def pt (f : Fm) (i : Nat) : Fm := (dc f i).headD .fls
theorem pt_at (f : Fm) (i : Nat) (h : i < (enc f).length) : ∃ rest, dc f i = pt f i :: rest ∧ dc f (i + 1) = kids (pt f i) ++ rest := by
  obtain ⟨g, rest, h1, h2, -⟩ := dc_at f i h
  have e : pt f i = g := by unfold pt; rw [h1]; rfl
  exact ⟨rest, by rw [e]; exact h1, by rw [e]; exact h2⟩
theorem pt_drop (f : Fm) (i : Nat) (h : i < (enc f).length) : ∃ rest, (enc f).drop i = enc (pt f i) ++ rest := by
  obtain ⟨rest, h1, -⟩ := pt_at f i h
  exact ⟨rest.flatMap enc, by rw [dc_drop f i (by omega), h1, List.flatMap_cons]⟩
theorem pt_next (f : Fm) (i : Nat) (h : i < (enc f).length) {k : UK} {a : Fm} (e : pt f i = .un k a) : i + 1 < (enc f).length ∧ pt f (i + 1) = a := by
  obtain ⟨rest, h1, h2⟩ := pt_at f i h
  rw [e] at h2
  have h3 : dc f (i + 1) = a :: rest := h2
  refine ⟨?_, by unfold pt; rw [h3]; rfl⟩
  have h4 := dc_drop f (i + 1) (by omega)
  rw [h3, List.flatMap_cons] at h4
  have h5 := congrArg List.length h4
  rw [List.length_drop, List.length_append] at h5
  have := enc_pos a
  omega
/-- is the part at an index true at a world? -/
def tb (ns us : List Nat) (f : Fm) (i w : Nat) : Bool := (tv ns us (pt f i)).testBit w
/-- which of the first k parts are true at a world -/
def ky (ns us : List Nat) (f : Fm) (k w : Nat) : Nat := msk (fun i => tb ns us f i w) k
theorem ky_iff (ns us : List Nat) (f : Fm) (k w v : Nat) : ky ns us f k w = ky ns us f k v ↔ ∀ i, i < k → tb ns us f i w = tb ns us f i v := by
  constructor
  · intro h i hi
    have := congrArg (fun n => n.testBit i) h
    simpa [ky, msk_testBit, hi] using this
  · intro h
    exact msk_congr _ _ _ h
/-- the least elements of the classes of the first x elements -/
def fw (key : Nat → Nat) : Nat → List Nat
  | 0 => []
  | x + 1 => if (List.range x).any (fun y => decide (key y = key x)) then fw key x else fw key x ++ [x]
theorem find_any {key : Nat → Nat} {x y : Nat} (h : (List.range x).find? (fun z => decide (key z = key x)) = some y) : (List.range x).any (fun z => decide (key z = key x)) = true ∧ y < x ∧ key y = key x := by
  have h1 := List.find?_some h
  have h2 := List.mem_of_find?_eq_some h
  rw [List.any_eq_true]
  exact ⟨⟨y, h2, h1⟩, List.mem_range.1 h2, by simpa using h1⟩
theorem find_none {key : Nat → Nat} {x : Nat} (h : (List.range x).find? (fun z => decide (key z = key x)) = none) : (List.range x).any (fun z => decide (key z = key x)) = false ∧ ∀ y, y < x → ¬ key y = key x := by
  rw [List.find?_eq_none] at h
  have h1 : ∀ y, y < x → ¬ key y = key x := fun y hy => by simpa using h y (List.mem_range.2 hy)
  refine ⟨?_, h1⟩
  rw [← Bool.not_eq_true, List.any_eq_true]
  rintro ⟨y, hy, he⟩
  exact h1 y (List.mem_range.1 hy) (by simpa using he)
theorem fw_length (key : Nat → Nat) (x : Nat) : (fw key x).length = (dvd key x).2 := by
  induction x with
  | zero => rfl
  | succ x ih =>
    rw [fw, dvd]
    cases hf : (List.range x).find? (fun z => decide (key z = key x)) with
    | some y => rw [(find_any hf).1]; simpa using ih
    | none => rw [(find_none hf).1]; simp [ih]
theorem fw_lt (key : Nat → Nat) (x : Nat) : ∀ c ∈ fw key x, c < x := by
  induction x with
  | zero => intro c hc; simp [fw] at hc
  | succ x ih =>
    intro c hc
    rw [fw] at hc
    split at hc
    · have := ih c hc; omega
    · rw [List.mem_append, List.mem_singleton] at hc
      rcases hc with hc | hc
      · have := ih c hc; omega
      · omega
theorem getD_app_lt {l t : List Nat} {i : Nat} (h : i < l.length) : (l ++ t).getD i 0 = l.getD i 0 := by
  rw [List.getD_eq_getElem?_getD, List.getElem?_append_left h, ← List.getD_eq_getElem?_getD]
theorem getD_app_at {l : List Nat} {i a : Nat} (h : i = l.length) : (l ++ [a]).getD i 0 = a := by
  rw [List.getD_eq_getElem?_getD, List.getElem?_append_right (by omega), h, Nat.sub_self]
  rfl
/-- what the numbers of the classes and the least elements say of each other -/
theorem dvd_fw (key : Nat → Nat) (x : Nat) :
    (∀ y, y < x → (dvd key x).1.getD y 0 < (dvd key x).2 ∧ key ((fw key x).getD ((dvd key x).1.getD y 0) 0) = key y) ∧
    (∀ i, i < (dvd key x).2 → (fw key x).getD i 0 < x ∧ (dvd key x).1.getD ((fw key x).getD i 0) 0 = i) ∧
    (∀ y z, y < x → z < x → key y = key z → (dvd key x).1.getD y 0 = (dvd key x).1.getD z 0) := by
  induction x with
  | zero => exact ⟨fun y hy => by omega, fun i hi => by simp [dvd] at hi, fun y z hy => by omega⟩
  | succ x ih =>
    obtain ⟨hA, hB, hC⟩ := ih
    have hl := dvd_length key x
    have hfl := fw_length key x
    cases hf : (List.range x).find? (fun z => decide (key z = key x)) with
    | some y0 =>
      obtain ⟨h1, h2, h3⟩ := find_any hf
      have e1 : dvd key (x + 1) = ((dvd key x).1 ++ [(dvd key x).1.getD y0 0], (dvd key x).2) := by rw [dvd, hf]
      have e2 : fw key (x + 1) = fw key x := by rw [fw, if_pos h1]
      rw [e1, e2]
      have old : ∀ y, y < x → ((dvd key x).1 ++ [(dvd key x).1.getD y0 0]).getD y 0 = (dvd key x).1.getD y 0 := fun y hy => getD_app_lt (by omega)
      have new : ((dvd key x).1 ++ [(dvd key x).1.getD y0 0]).getD x 0 = (dvd key x).1.getD y0 0 := getD_app_at (by omega)
      simp only
      refine ⟨fun y hy => ?_, fun i hi => ?_, fun y z hy hz he => ?_⟩
      · by_cases hyx : y = x
        · rw [hyx, new]; exact ⟨(hA y0 h2).1, (hA y0 h2).2.trans h3⟩
        · rw [old y (by omega)]; exact hA y (by omega)
      · obtain ⟨p, q⟩ := hB i hi
        exact ⟨by omega, by rw [old _ p]; exact q⟩
      · by_cases hyx : y = x
        · by_cases hzx : z = x
          · rw [hyx, hzx]
          · rw [hyx, new, old z (by omega)]; exact hC _ _ h2 (by omega) (by rw [h3, ← he, hyx])
        · by_cases hzx : z = x
          · rw [hzx, new, old y (by omega)]; exact hC _ _ (by omega) h2 (by rw [h3, he, hzx])
          · rw [old y (by omega), old z (by omega)]; exact hC _ _ (by omega) (by omega) he
    | none =>
      obtain ⟨h1, h2⟩ := find_none hf
      have e1 : dvd key (x + 1) = ((dvd key x).1 ++ [(dvd key x).2], (dvd key x).2 + 1) := by rw [dvd, hf]
      have e2 : fw key (x + 1) = fw key x ++ [x] := by rw [fw, if_neg (by rw [h1]; decide)]
      rw [e1, e2]
      have old : ∀ y, y < x → ((dvd key x).1 ++ [(dvd key x).2]).getD y 0 = (dvd key x).1.getD y 0 := fun y hy => getD_app_lt (by omega)
      have new : ((dvd key x).1 ++ [(dvd key x).2]).getD x 0 = (dvd key x).2 := getD_app_at (by omega)
      have fold : ∀ i, i < (dvd key x).2 → (fw key x ++ [x]).getD i 0 = (fw key x).getD i 0 := fun i hi => getD_app_lt (by omega)
      have fnew : (fw key x ++ [x]).getD (dvd key x).2 0 = x := getD_app_at (by omega)
      simp only
      refine ⟨fun y hy => ?_, fun i hi => ?_, fun y z hy hz he => ?_⟩
      · by_cases hyx : y = x
        · rw [hyx, new, fnew]; exact ⟨by omega, rfl⟩
        · obtain ⟨p, q⟩ := hA y (by omega)
          rw [old y (by omega), fold _ p]; exact ⟨by omega, q⟩
      · by_cases hii : i = (dvd key x).2
        · rw [hii, fnew, new]; exact ⟨by omega, rfl⟩
        · obtain ⟨p, q⟩ := hB i (by omega)
          rw [fold i (by omega), old _ p]; exact ⟨by omega, q⟩
      · by_cases hyx : y = x
        · by_cases hzx : z = x
          · rw [hyx, hzx]
          · exact absurd (by rw [← he, hyx]) (h2 z (by omega))
        · by_cases hzx : z = x
          · exact absurd (by rw [he, hzx]) (h2 y (by omega))
          · rw [old y (by omega), old z (by omega)]; exact hC _ _ (by omega) (by omega) he
/-- the search for a class by the least elements -/
theorem fw_hit (key : Nat → Nat) (x k : Nat) (hk : k < (fw key x).length) (he : key ((fw key x).getD k 0) = key x) : dvd key (x + 1) = ((dvd key x).1 ++ [k], (dvd key x).2) ∧ fw key (x + 1) = fw key x := by
  obtain ⟨hA, hB, hC⟩ := dvd_fw key x
  obtain ⟨p, q⟩ := hB k (by rw [← fw_length]; exact hk)
  cases hf : (List.range x).find? (fun z => decide (key z = key x)) with
  | some y =>
    obtain ⟨h1, h2, h3⟩ := find_any hf
    refine ⟨?_, by rw [fw, if_pos h1]⟩
    rw [dvd, hf]
    simp only
    rw [hC y _ h2 p (by rw [h3, he]), q]
  | none => exact absurd he ((find_none hf).2 _ p)
theorem fw_miss (key : Nat → Nat) (x : Nat) (h : ∀ k, k < (fw key x).length → ¬ key ((fw key x).getD k 0) = key x) : dvd key (x + 1) = ((dvd key x).1 ++ [(fw key x).length], (fw key x).length + 1) ∧ fw key (x + 1) = fw key x ++ [x] := by
  cases hf : (List.range x).find? (fun z => decide (key z = key x)) with
  | some y =>
    obtain ⟨h1, h2, h3⟩ := find_any hf
    obtain ⟨hA, hB, hC⟩ := dvd_fw key x
    obtain ⟨p, q⟩ := hA y h2
    exact absurd (q.trans h3) (h _ (by rw [fw_length]; exact p))
  | none =>
    refine ⟨?_, by rw [fw, if_neg (by rw [(find_none hf).1]; decide)]⟩
    rw [dvd, hf, fw_length]
/-- what a relation of classes says -/
theorem img_pw_bit {cl : List Nat} (m j : Nat) : (img (pw cl) m).testBit j = true ↔ ∃ v, v < cl.length ∧ m.testBit v = true ∧ cl.getD v 0 = j := by
  unfold img
  rw [imgTo_bit, pw_length]
  constructor
  · rintro ⟨v, hv, hm, hb⟩
    rw [pw_getD hv, Nat.testBit_two_pow] at hb
    exact ⟨v, hv, hm, by simpa using hb⟩
  · rintro ⟨v, hv, hm, hb⟩
    exact ⟨v, hv, hm, by rw [pw_getD hv, Nat.testBit_two_pow]; simpa using hb⟩
theorem qrl_bit {cl a : List Nat} {n : Nat} (k i j : Nat) (hn : ∀ w, w < k → cl.getD w 0 < n) :
    ((qrl cl a n k).getD i 0).testBit j = true ↔ ∃ w, w < k ∧ cl.getD w 0 = i ∧ (img (pw cl) (a.getD w 0)).testBit j = true := by
  induction k with
  | zero =>
    rw [qrl]
    constructor
    · intro h
      rw [List.getD_eq_getElem?_getD] at h
      rcases Nat.lt_or_ge i n with hi | hi
      · rw [List.getElem?_replicate, if_pos hi] at h; simp at h
      · rw [List.getElem?_replicate, if_neg (by omega)] at h; simp at h
    · rintro ⟨w, hw, _⟩; omega
  | succ k ih =>
    have ih := ih fun w hw => hn w (by omega)
    have hk := hn k (by omega)
    rw [qrl, qst, getD_set]
    by_cases hi : cl.getD k 0 = i
    · rw [if_pos ⟨hi, by rw [qrl_length]; exact hk⟩, Nat.testBit_or, Bool.or_eq_true, hi, ih]
      constructor
      · rintro (⟨w, h1, h2, h3⟩ | h)
        · exact ⟨w, by omega, h2, h3⟩
        · exact ⟨k, by omega, hi, h⟩
      · rintro ⟨w, h1, h2, h3⟩
        by_cases hw : w = k
        · subst hw; exact .inr h3
        · exact .inl ⟨w, by omega, h2, h3⟩
    · rw [if_neg (fun h => hi h.1), ih]
      constructor
      · rintro ⟨w, h1, h2, h3⟩; exact ⟨w, by omega, h2, h3⟩
      · rintro ⟨w, h1, h2, h3⟩
        by_cases hw : w = k
        · subst hw; exact absurd h2 hi
        · exact ⟨w, by omega, h2, h3⟩
/-- a relation between worlds that keys decide, as one between the classes' least worlds -/
theorem qrl_lnk (key : Nat → Nat) (n : Nat) (p : Nat → Nat → Bool) (hp : ∀ w w' v v', w < n → w' < n → v < n → v' < n → key w = key w' → key v = key v' → p w v = p w' v') :
    qrl (dvd key n).1 (lnk n n p) (dvd key n).2 n = lnk (dvd key n).2 (dvd key n).2 fun i j => p ((fw key n).getD i 0) ((fw key n).getD j 0) := by
  obtain ⟨hA, hB, hC⟩ := dvd_fw key n
  have hl := dvd_length key n
  apply List.ext_getElem (by rw [qrl_length, lnk_length])
  intro i h1 h2
  rw [qrl_length] at h1
  have g1 : (qrl (dvd key n).1 (lnk n n p) (dvd key n).2 n)[i] = (qrl (dvd key n).1 (lnk n n p) (dvd key n).2 n).getD i 0 := by rw [List.getD_eq_getElem?_getD, List.getElem?_eq_getElem]; rfl
  have g2 : (lnk (dvd key n).2 (dvd key n).2 fun i j => p ((fw key n).getD i 0) ((fw key n).getD j 0))[i] = (lnk (dvd key n).2 (dvd key n).2 fun i j => p ((fw key n).getD i 0) ((fw key n).getD j 0)).getD i 0 := by rw [List.getD_eq_getElem?_getD, List.getElem?_eq_getElem]; rfl
  rw [g1, g2, lnk_getD _ h1]
  apply Nat.eq_of_testBit_eq
  intro j
  rw [Bool.eq_iff_iff, qrl_bit n i j (fun w hw => (hA w hw).1), msk_testBit, Bool.and_eq_true, decide_eq_true_eq]
  constructor
  · rintro ⟨w, hw, hwi, hb⟩
    rw [img_pw_bit] at hb
    obtain ⟨v, hv, hm, hvj⟩ := hb
    rw [hl] at hv
    rw [lnk_getD _ hw, msk_testBit, decide_eq_true hv, Bool.true_and] at hm
    obtain ⟨a1, a2⟩ := hA w hw
    obtain ⟨b1, b2⟩ := hA v hv
    rw [hwi] at a2
    rw [hvj] at b1 b2
    refine ⟨b1, ?_⟩
    rw [← hm]
    exact hp _ _ _ _ (hB i h1).1 hw (hB j b1).1 hv a2 b2
  · rintro ⟨hj, hpp⟩
    obtain ⟨a1, a2⟩ := hB i h1
    obtain ⟨b1, b2⟩ := hB j hj
    refine ⟨_, a1, a2, ?_⟩
    rw [img_pw_bit]
    exact ⟨_, by rw [hl]; exact b1, by rw [lnk_getD _ a1, msk_testBit, decide_eq_true b1, Bool.true_and]; exact hpp, b2⟩
theorem lnk_id {n : Nat} {ns : List Nat} (hl : ns.length = n) (h : ∀ x ∈ ns, x < 2 ^ n) : lnk n n (fun x y => (ns.getD x 0).testBit y) = ns := by
  apply List.ext_getElem (by rw [lnk_length, hl])
  intro i h1 h2
  have g1 : (lnk n n (fun x y => (ns.getD x 0).testBit y))[i] = (lnk n n (fun x y => (ns.getD x 0).testBit y)).getD i 0 := by rw [List.getD_eq_getElem?_getD, List.getElem?_eq_getElem]; rfl
  have g2 : ns[i] = ns.getD i 0 := by rw [List.getD_eq_getElem?_getD, List.getElem?_eq_getElem]; rfl
  rw [g1, g2, lnk_getD _ (by rw [lnk_length] at h1; exact h1)]
  exact (msk_eq n _ (getD_lt h i) fun _ _ => rfl).symm
/-- what the parts with modalities say: is it a box?, the worlds at which it is true, the worlds at which its part is -/
def mds (ns us : List Nat) (f : Fm) : Nat → List (Bool × Nat × Nat)
  | 0 => []
  | k + 1 => mds ns us f k ++ match pt f k with
    | .un .box a => [(true, tv ns us (pt f k), tv ns us a)]
    | .un .dia a => [(false, tv ns us (pt f k), tv ns us a)]
    | _ => []
/-- those of one kind -/
def ofk (b : Bool) : List (Bool × Nat × Nat) → List (Nat × Nat)
  | [] => []
  | (c, e) :: L => if c = b then e :: ofk b L else ofk b L
theorem ofk_append (b : Bool) (L M : List (Bool × Nat × Nat)) : ofk b (L ++ M) = ofk b L ++ ofk b M := by
  induction L with
  | nil => rfl
  | cons e L ih =>
    obtain ⟨c, e⟩ := e
    rw [List.cons_append, ofk, ofk, ih]
    split <;> rfl
theorem ofk_mem {b : Bool} {L : List (Bool × Nat × Nat)} {e : Nat × Nat} (h : e ∈ ofk b L) : (b, e) ∈ L := by
  induction L with
  | nil => simp [ofk] at h
  | cons x L ih =>
    obtain ⟨c, d⟩ := x
    rw [ofk] at h
    split at h
    · rename_i hc
      rw [List.mem_cons] at h
      rcases h with h | h
      · subst h; subst hc; exact List.mem_cons_self
      · exact List.mem_cons_of_mem _ (ih h)
    · exact List.mem_cons_of_mem _ (ih h)
theorem ofk_length (b : Bool) (L : List (Bool × Nat × Nat)) : (ofk b L).length ≤ L.length := by
  induction L with
  | nil => exact Nat.le_refl _
  | cons e L ih =>
    obtain ⟨c, e⟩ := e
    rw [ofk]
    split <;> simp <;> omega
def may (L : List (Bool × Nat × Nat)) (more : Bool) (w v : Nat) : Bool :=
  L.all fun e => if e.1 then !(e.2.1.testBit w && (!e.2.2.testBit v || more && !e.2.1.testBit v)) else !(!e.2.1.testBit w && (e.2.2.testBit v || more && e.2.1.testBit v))
def alw (L : List (Bool × Nat × Nat)) (w v : Nat) : Bool :=
  !((ofk true L).any fun b => b.1.testBit w && !b.2.testBit v) && !((ofk false L).any fun b => b.2.testBit v && !b.1.testBit w)
def kps (L : List (Bool × Nat × Nat)) (w v : Nat) : Bool :=
  !((ofk true L).any fun b => b.1.testBit w && !b.1.testBit v) && !((ofk false L).any fun b => b.1.testBit v && !b.1.testBit w)
theorem alw_may (L : List (Bool × Nat × Nat)) (w v : Nat) : alw L w v = may L false w v := by
  induction L with
  | nil => rfl
  | cons e L ih =>
    obtain ⟨b, o, i⟩ := e
    unfold alw may at ih ⊢
    rw [List.all_cons, ← ih]
    clear ih
    cases b
    · rw [ofk, if_neg (by decide), ofk, if_pos rfl, List.any_cons]
      generalize (ofk false L).any (fun b => b.2.testBit v && !b.1.testBit w) = B
      generalize (ofk true L).any (fun b => b.1.testBit w && !b.2.testBit v) = A2
      simp only
      generalize o.testBit w = p; generalize i.testBit v = q; generalize o.testBit v = r
      revert A2 B p q r; decide
    · rw [ofk, if_pos rfl, List.any_cons, ofk, if_neg (by decide)]
      generalize (ofk false L).any (fun b => b.2.testBit v && !b.1.testBit w) = B
      generalize (ofk true L).any (fun b => b.1.testBit w && !b.2.testBit v) = A2
      simp only
      generalize o.testBit w = p; generalize i.testBit v = q; generalize o.testBit v = r
      revert A2 B p q r; decide
theorem alw_kps_may (L : List (Bool × Nat × Nat)) (w v : Nat) : (alw L w v && kps L w v) = may L true w v := by
  induction L with
  | nil => rfl
  | cons e L ih =>
    obtain ⟨b, o, i⟩ := e
    unfold alw kps may at ih ⊢
    rw [List.all_cons, ← ih]
    clear ih
    cases b
    · rw [ofk, if_neg (by decide), ofk, if_pos rfl, List.any_cons, List.any_cons]
      generalize (ofk false L).any (fun b => b.2.testBit v && !b.1.testBit w) = B
      generalize (ofk true L).any (fun b => b.1.testBit w && !b.2.testBit v) = A
      generalize (ofk false L).any (fun b => b.1.testBit v && !b.1.testBit w) = B2
      generalize (ofk true L).any (fun b => b.1.testBit w && !b.1.testBit v) = A2
      simp only
      generalize o.testBit w = p; generalize i.testBit v = q; generalize o.testBit v = r
      revert A A2 B B2 p q r; decide
    · rw [ofk, if_pos rfl, List.any_cons, List.any_cons, ofk, if_neg (by decide)]
      generalize (ofk false L).any (fun b => b.2.testBit v && !b.1.testBit w) = B
      generalize (ofk true L).any (fun b => b.1.testBit w && !b.2.testBit v) = A
      generalize (ofk false L).any (fun b => b.1.testBit v && !b.1.testBit w) = B2
      generalize (ofk true L).any (fun b => b.1.testBit w && !b.1.testBit v) = A2
      simp only
      generalize o.testBit w = p; generalize i.testBit v = q; generalize o.testBit v = r
      revert A A2 B B2 p q r; decide
theorem mds_mem (ns us : List Nat) (f : Fm) (k : Nat) (hk : k ≤ (enc f).length) : ∀ e ∈ mds ns us f k, ∃ i j, i < (enc f).length ∧ j < (enc f).length ∧ e.2.1 = tv ns us (pt f i) ∧ e.2.2 = tv ns us (pt f j) := by
  induction k with
  | zero => intro e he; simp [mds] at he
  | succ k ih =>
    intro e he
    rw [mds, List.mem_append] at he
    rcases he with he | he
    · exact ih (by omega) e he
    · cases hp : pt f k with
      | var s => rw [hp] at he; simp at he
      | fls => rw [hp] at he; simp at he
      | bin b x y => rw [hp] at he; simp at he
      | un u a =>
        obtain ⟨h1, h2⟩ := pt_next f k (by omega) hp
        rw [hp] at he
        cases u
        all_goals
          simp only [List.mem_singleton] at he
          subst he
          exact ⟨k, k + 1, by omega, h1, by rw [hp], by rw [h2]⟩
theorem mds_lt (ns us : List Nat) (hu : ∀ x ∈ us, x < 2 ^ ns.length) (f : Fm) (k : Nat) (hk : k ≤ (enc f).length) : ∀ e ∈ mds ns us f k, e.2.1 < 2 ^ ns.length ∧ e.2.2 < 2 ^ ns.length := by
  intro e he
  obtain ⟨i, j, -, -, h1, h2⟩ := mds_mem ns us f k hk e he
  exact ⟨by rw [h1]; exact tv_lt ns us hu _, by rw [h2]; exact tv_lt ns us hu _⟩
theorem mds_length (ns us : List Nat) (f : Fm) (k : Nat) : (mds ns us f k).length ≤ k := by
  induction k with
  | zero => exact Nat.le_refl _
  | succ k ih =>
    rw [mds, List.length_append]
    split <;> simp <;> omega
/-- alike worlds are treated alike -/
theorem may_key (ns us : List Nat) (f : Fm) (more : Bool) {w w' v v' : Nat} (hw : ky ns us f (enc f).length w = ky ns us f (enc f).length w') (hv : ky ns us f (enc f).length v = ky ns us f (enc f).length v') :
    may (mds ns us f (enc f).length) more w v = may (mds ns us f (enc f).length) more w' v' := by
  rw [ky_iff] at hw hv
  unfold may
  have key : ∀ e ∈ mds ns us f (enc f).length, e.2.1.testBit w = e.2.1.testBit w' ∧ e.2.1.testBit v = e.2.1.testBit v' ∧ e.2.2.testBit v = e.2.2.testBit v' := by
    intro e he
    obtain ⟨i, j, hi, hj, h1, h2⟩ := mds_mem ns us f _ (Nat.le_refl _) e he
    rw [h1, h2]
    exact ⟨hw i hi, hv i hi, hv j hj⟩
  rw [Bool.eq_iff_iff, List.all_eq_true, List.all_eq_true]
  constructor
  · intro h e he
    obtain ⟨h1, h2, h3⟩ := key e he
    have := h e he
    rwa [h1, h2, h3] at this
  · intro h e he
    obtain ⟨h1, h2, h3⟩ := key e he
    have := h e he
    rwa [← h1, ← h2, ← h3] at this
/-- the classes of alike worlds, their number, the least worlds -/
def acl (ns us : List Nat) (f : Fm) : List Nat := (dvd (ky ns us f (enc f).length) ns.length).1
def acn (ns us : List Nat) (f : Fm) : Nat := (dvd (ky ns us f (enc f).length) ns.length).2
def afw (ns us : List Nat) (f : Fm) : List Nat := fw (ky ns us f (enc f).length) ns.length
theorem acl_length (ns us : List Nat) (f : Fm) : (acl ns us f).length = ns.length := dvd_length _ _
theorem acn_le (ns us : List Nat) (f : Fm) : acn ns us f ≤ ns.length := dvd_count _ _
theorem acl_lt (ns us : List Nat) (f : Fm) : ∀ c ∈ acl ns us f, c < acn ns us f := dvd_lt _ _
theorem afw_length (ns us : List Nat) (f : Fm) : (afw ns us f).length = acn ns us f := fw_length _ _
theorem acn_mx (ns us : List Nat) (f : Fm) : mx (acl ns us f) (acl ns us f).length = acn ns us f := by
  obtain ⟨hA, hB, -⟩ := dvd_fw (ky ns us f (enc f).length) ns.length
  have h1 := mx_le (acl ns us f) (acn ns us f) (acl ns us f).length fun i hi => acl_lt ns us f _ (getD_mem hi)
  rcases Nat.eq_zero_or_pos (acn ns us f) with h0 | h0
  · omega
  · obtain ⟨p, q⟩ := hB (acn ns us f - 1) (by unfold acn at h0 ⊢; omega)
    have := mx_gt (acl ns us f) (k := (acl ns us f).length) (i := (fw (ky ns us f (enc f).length) ns.length).getD (acn ns us f - 1) 0) (by rw [acl_length]; exact p)
    have q' : (acl ns us f).getD ((fw (ky ns us f (enc f).length) ns.length).getD (acn ns us f - 1) 0) 0 = acn ns us f - 1 := q
    omega
/-- the least filtration, and what a condition of worlds allows -/
def lst (ns us : List Nat) (f : Fm) : List Nat := qrl (acl ns us f) ns (acn ns us f) ns.length
def frm (ns us : List Nat) (f : Fm) (p : Nat → Nat → Bool) : List Nat := qrl (acl ns us f) (lnk ns.length ns.length p) (acn ns us f) ns.length
theorem lst_frm (ns us : List Nat) (h : ∀ x ∈ ns, x < 2 ^ ns.length) (f : Fm) : frm ns us f (fun x y => (ns.getD x 0).testBit y) = lst ns us f := by
  unfold frm lst; rw [lnk_id rfl h]
def grt (ns us : List Nat) (f : Fm) (p : Nat → Nat → Bool) : List Nat := lnk (acn ns us f) (acn ns us f) fun i j => p ((afw ns us f).getD i 0) ((afw ns us f).getD j 0)
theorem frm_grt (ns us : List Nat) (f : Fm) (p : Nat → Nat → Bool) (hp : ∀ w w' v v', ky ns us f (enc f).length w = ky ns us f (enc f).length w' → ky ns us f (enc f).length v = ky ns us f (enc f).length v' → p w v = p w' v') : frm ns us f p = grt ns us f p :=
  qrl_lnk _ _ _ fun w w' v v' _ _ _ _ h1 h2 => hp w w' v v' h1 h2
/- Strings of binary digits, and a map from such strings to int64 that the call makes: what the walk of divided[string] wants. -/
open Go.RowKit Go.Maps
def dg (b : Bool) : ByteArray := ⟨#[if b then 49 else 48]⟩
/-- the digits of the first k answers -/
def ks (p : Nat → Bool) : Nat → ByteArray
  | 0 => ⟨#[]⟩
  | k + 1 => ks p k ++ dg (p k)
theorem ks_list (p : Nat → Bool) (k : Nat) : (ks p k).data.toList = (List.range k).map fun i => if p i then (49 : UInt8) else 48 := by
  induction k with
  | zero => rfl
  | succ k ih =>
    rw [ks, List.range_succ, List.map_append, ← ih]
    simp [dg]
theorem ks_size (p : Nat → Bool) (k : Nat) : (ks p k).size = k := by
  have := congrArg List.length (ks_list p k)
  simpa using this
theorem ks_congr {p q : Nat → Bool} {k : Nat} (h : ∀ i, i < k → p i = q i) : ks p k = ks q k := by
  induction k with
  | zero => rfl
  | succ k ih => rw [ks, ks, ih fun i hi => h i (by omega), h k (by omega)]
/-- the digits of a number below 2^N -/
def kb (a N : Nat) : ByteArray := ks a.testBit N
theorem kb_size (a N : Nat) : (kb a N).size = N := ks_size _ _
theorem kb_inj {a b N : Nat} (ha : a < 2 ^ N) (hb : b < 2 ^ N) (h : (kb a N).data.toList = (kb b N).data.toList) : a = b := by
  refine msk_ext N ha hb fun i hi => ?_
  unfold kb at h
  rw [ks_list, ks_list] at h
  have h2 := congrArg (fun l => l[i]?) h
  simp [hi] at h2
  by_cases h3 : a.testBit i = true <;> by_cases h4 : b.testBit i = true <;> simp_all
theorem kb_ky (ns us : List Nat) (f : Fm) (N w : Nat) : kb (ky ns us f N w) N = ks (fun i => tb ns us f i w) N := by
  unfold kb
  refine ks_congr fun i hi => ?_
  unfold ky
  rw [msk_testBit, decide_eq_true hi, Bool.true_and]
theorem Sl.atS {w : World} {A : Option Addr} {n c : Nat} {xs : List ByteArray} (h : Sl cS w (.slice A n c) xs) {k : Nat} (hk : k < xs.length) :
    ∃ b o, A = some ⟨b, o, none⟩ ∧ b < w.heap.size ∧ w.cell? ⟨b, o + k, none⟩ = some (.string xs[k]) := by
  obtain ⟨b, o, hA, hb, hc⟩ := h.cell hk
  have := hc 0 (.string xs[k]) rfl
  exact ⟨b, o, hA, hb, by simpa [cS] using this⟩
end Go.Proofs.Ytkllbehdmlbhaaa

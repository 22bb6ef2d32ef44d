/- Joined of several texts. -/
import Derived.Test.YtgkogfjifcfkoaaGreatY05
import Derived.Test.YtgkogfjifcfkoaaGreatY06
import Derived.Test.YtgkogfjifcfkoaaGreatY07
import Derived.Test.YtgkogfjifcfkoaaGreatY08
import Derived.Test.YtgkogfjifcfkoaaGreatY03
import Derived.Test.YtgkogfjifcfkoaaGreatY01
import Derived.Maps.OwnSet
import Derived.StringKeys
import Derived.Test.YtgkogfjifcfkoaaGreatY04
import Derived.StillTailTactics
import Derived.Deep.RegionLaw
namespace Go.Proofs.YtgkogfjifcfkoaaGreat
/- The flags of a frame that posets ask for, of both sides. Written by gen24F.py. -/
open Go.RowKit
set_option linter.unusedVariables false
set_option linter.unusedSimpArgs false
/- The flags of a frame, of the reference, at 0, 1, 4, 5, 6, 8, 9 and 10. Written by gen14Q.py. -/
/-- three conditions, of a world, of it and one that it sees, of it and two that it sees -/
def t3 (a : List Nat) (P1 : Nat → Bool) (P2 : Nat → Nat → Bool) (P3 : Nat → Nat → Nat → Bool) : Bool :=
  (List.range a.length).all fun x => P1 x && (List.range a.length).all fun y => !(a.getD x 0).testBit y || (P2 x y && (List.range a.length).all fun z => !(a.getD x 0).testBit z || P3 x y z)
/- hasFlag of the program at 0, 1, 4, 5, 6, 8, 9 and 10. Written by gen14G.py. -/
/-- what the conditions read: a frame's box, the box of the inverse, both lists -/
structure Bx (W : World) (F B : Nat) (ns : List Nat) (A A1 : Option Addr) (c c1 : Nat) : Prop where
  f0 : W.cell? ⟨F, 0, none⟩ = some (.int .i64 ns.length)
  f1 : W.cell? ⟨F, 1, none⟩ = some (.slice A ns.length c)
  fl : F < W.heap.size
  b0 : W.cell? ⟨B, 0, none⟩ = some (.slice A1 ns.length c1)
  bl : B < W.heap.size
  a : Sl cI W (.slice A ns.length c) (li ns)
  b : Sl cI W (.slice A1 ns.length c1) (li (inv ns))
theorem Bx.below {W W' : World} {F B : Nat} {ns : List Nat} {A A1 : Option Addr} {c c1 : Nat} (h : Bx W F B ns A A1 c c1) (hb : Below W.heap.size W W') : Bx W' F B ns A A1 c c1 :=
  ⟨(hb.cell (p := ⟨F, 0, none⟩) h.fl).trans h.f0, (hb.cell (p := ⟨F, 1, none⟩) h.fl).trans h.f1, Nat.lt_of_lt_of_le h.fl hb.size, (hb.cell (p := ⟨B, 0, none⟩) h.bl).trans h.b0, Nat.lt_of_lt_of_le h.bl hb.size, h.a.below hb, h.b.below hb⟩
theorem q_within {a b : Nat} (ha : a < 9223372036854775808) (hb : b < 9223372036854775808) (W : World) (n : Nat) :
    Calls Tryz.prog 192 #[.int .i64 a, .int .i64 b] (W.drewN n) fun e w'' => e = .returned (.bool (decide (andnot a b = 0))) ∧ ∃ m, w'' = W.drewN m :=
  (impl_within a b _ ha hb).mono fun e w' hh => ⟨hh.1, n, hh.2.symm⟩
theorem en_hasFlag_114 : ∀ (args : Array Value) (w : World), (callFunc 182 args).run Tryz.prog w = .ok (.enter 182 args) w := enters Tryz.func182 (by kernel_rfl) (by kernel_rfl)
theorem en_hasFlag_714 : ∀ (args : Array Value) (w : World), (callFunc 191 args).run Tryz.prog w = .ok (.enter 191 args) w := enters Tryz.func191 (by kernel_rfl) (by kernel_rfl)
/- hasFlag of the program, in the reference's words. Written by gen14H.py. -/
theorem t3_one (ns : List Nat) (P1 : Nat → Bool) : t3 ns P1 (fun _ _ => true) (fun _ _ _ => true) = (List.range ns.length).all P1 := by
  unfold t3
  congr 1
  funext x
  simp
theorem all_range_congr {n : Nat} {f g : Nat → Bool} (h : ∀ x, x < n → f x = g x) : (List.range n).all f = (List.range n).all g := by
  rw [Bool.eq_iff_iff, List.all_eq_true, List.all_eq_true]
  exact ⟨fun hh x hx => by rw [← h x (List.mem_range.1 hx)]; exact hh x hx, fun hh x hx => by rw [h x (List.mem_range.1 hx)]; exact hh x hx⟩
/- Contracts of posets and valuations, of both sides: isPoset, isUpset, isValuation, l16Is, l17Is, IsValuation. Written by gen24A.py. -/
open Go.RowKit
set_option linter.unusedVariables false
set_option linter.unusedSimpArgs false
theorem eqI (a b : Nat) : (((a : Nat) : Int) == (b : Int)) = decide (a = b) := by
  rw [Bool.eq_iff_iff, beq_iff_eq, decide_eq_true_eq]; omega
theorem neI (a b : Nat) : (((a : Nat) : Int) != (b : Int)) = !decide (a = b) := by
  unfold bne; rw [eqI]
/- Contracts of valuations, of the reference: l17Is, IsValuation. Written by gen24A.py. -/
open Go.RowKit
set_option linter.unusedVariables false
set_option linter.unusedSimpArgs false
/- Plain law: bisimilarity between two models in so many rounds is an equivalence of worlds, which is steady after 16 rounds; it keeps truth. No program in sight. -/
open Go.RowKit
set_option linter.unusedVariables false
set_option linter.unusedSimpArgs false
/- Joined of several texts: M14, M14m. -/
open Go.RowKit
set_option linter.unusedVariables false
set_option linter.unusedSimpArgs false
/- Plain words of chapter 14: the parts of a formula, the classes of alike worlds, what a filtration allows. No program in sight. -/
/-- the part of a formula at an index -/
def pt (f : Fm) (i : Nat) : Fm := (dc f i).headD .fls
/-- is the part at an index true at a world? -/
def tb (ns us : List Nat) (f : Fm) (i w : Nat) : Bool := (tv ns us (pt f i)).testBit w
/-- the least elements of the classes of the first x elements -/
def fw (key : Nat → Nat) : Nat → List Nat
  | 0 => []
  | x + 1 => if (List.range x).any (fun y => decide (key y = key x)) then fw key x else fw key x ++ [x]
theorem find_any {key : Nat → Nat} {x y : Nat} (h : (List.range x).find? (fun z => decide (key z = key x)) = some y) : (List.range x).any (fun z => decide (key z = key x)) = true ∧ y < x ∧ key y = key x := by
  have h1 := List.find?_some h
  have h2 := List.mem_of_find?_eq_some h
  rw [List.any_eq_true]
  exact ⟨⟨y, h2, h1⟩, List.mem_range.1 h2, by simpa using h1⟩
theorem find_none {key : Nat → Nat} {x : Nat} (h : (List.range x).find? (fun z => decide (key z = key x)) = none) : (List.range x).any (fun z => decide (key z = key x)) = false ∧ ∀ y, y < x → ¬ key y = key x := by
  rw [List.find?_eq_none] at h
  have h1 : ∀ y, y < x → ¬ key y = key x := fun y hy => by simpa using h y (List.mem_range.2 hy)
  refine ⟨?_, h1⟩
  rw [← Bool.not_eq_true, List.any_eq_true]
  rintro ⟨y, hy, he⟩
  exact h1 y (List.mem_range.1 hy) (by simpa using he)
theorem fw_length (key : Nat → Nat) (x : Nat) : (fw key x).length = (dvd key x).2 := by
  induction x with
  | zero => rfl
  | succ x ih =>
    rw [fw, dvd]
    cases hf : (List.range x).find? (fun z => decide (key z = key x)) with
    | some y => rw [(find_any hf).1]; simpa using ih
    | none => rw [(find_none hf).1]; simp [ih]
theorem getD_app_lt {l t : List Nat} {i : Nat} (h : i < l.length) : (l ++ t).getD i 0 = l.getD i 0 := by
  rw [List.getD_eq_getElem?_getD, List.getElem?_append_left h, ← List.getD_eq_getElem?_getD]
theorem getD_app_at {l : List Nat} {i a : Nat} (h : i = l.length) : (l ++ [a]).getD i 0 = a := by
  rw [List.getD_eq_getElem?_getD, List.getElem?_append_right (by omega), h, Nat.sub_self]
  rfl
/-- what the numbers of the classes and the least elements say of each other -/
theorem dvd_fw (key : Nat → Nat) (x : Nat) :
    (∀ y, y < x → (dvd key x).1.getD y 0 < (dvd key x).2 ∧ key ((fw key x).getD ((dvd key x).1.getD y 0) 0) = key y) ∧
    (∀ i, i < (dvd key x).2 → (fw key x).getD i 0 < x ∧ (dvd key x).1.getD ((fw key x).getD i 0) 0 = i) ∧
    (∀ y z, y < x → z < x → key y = key z → (dvd key x).1.getD y 0 = (dvd key x).1.getD z 0) := by
  induction x with
  | zero => exact ⟨fun y hy => by omega, fun i hi => by simp [dvd] at hi, fun y z hy => by omega⟩
  | succ x ih =>
    obtain ⟨hA, hB, hC⟩ := ih
    have hl := dvd_length key x
    have hfl := fw_length key x
    cases hf : (List.range x).find? (fun z => decide (key z = key x)) with
    | some y0 =>
      obtain ⟨h1, h2, h3⟩ := find_any hf
      have e1 : dvd key (x + 1) = ((dvd key x).1 ++ [(dvd key x).1.getD y0 0], (dvd key x).2) := by rw [dvd, hf]
      have e2 : fw key (x + 1) = fw key x := by rw [fw, if_pos h1]
      rw [e1, e2]
      have old : ∀ y, y < x → ((dvd key x).1 ++ [(dvd key x).1.getD y0 0]).getD y 0 = (dvd key x).1.getD y 0 := fun y hy => getD_app_lt (by omega)
      have new : ((dvd key x).1 ++ [(dvd key x).1.getD y0 0]).getD x 0 = (dvd key x).1.getD y0 0 := getD_app_at (by omega)
      simp only
      refine ⟨fun y hy => ?_, fun i hi => ?_, fun y z hy hz he => ?_⟩
      · by_cases hyx : y = x
        · rw [hyx, new]; exact ⟨(hA y0 h2).1, (hA y0 h2).2.trans h3⟩
        · rw [old y (by omega)]; exact hA y (by omega)
      · obtain ⟨p, q⟩ := hB i hi
        exact ⟨by omega, by rw [old _ p]; exact q⟩
      · by_cases hyx : y = x
        · by_cases hzx : z = x
          · rw [hyx, hzx]
          · rw [hyx, new, old z (by omega)]; exact hC _ _ h2 (by omega) (by rw [h3, ← he, hyx])
        · by_cases hzx : z = x
          · rw [hzx, new, old y (by omega)]; exact hC _ _ (by omega) h2 (by rw [h3, he, hzx])
          · rw [old y (by omega), old z (by omega)]; exact hC _ _ (by omega) (by omega) he
    | none =>
      obtain ⟨h1, h2⟩ := find_none hf
      have e1 : dvd key (x + 1) = ((dvd key x).1 ++ [(dvd key x).2], (dvd key x).2 + 1) := by rw [dvd, hf]
      have e2 : fw key (x + 1) = fw key x ++ [x] := by rw [fw, if_neg (by rw [h1]; decide)]
      rw [e1, e2]
      have old : ∀ y, y < x → ((dvd key x).1 ++ [(dvd key x).2]).getD y 0 = (dvd key x).1.getD y 0 := fun y hy => getD_app_lt (by omega)
      have new : ((dvd key x).1 ++ [(dvd key x).2]).getD x 0 = (dvd key x).2 := getD_app_at (by omega)
      have fold : ∀ i, i < (dvd key x).2 → (fw key x ++ [x]).getD i 0 = (fw key x).getD i 0 := fun i hi => getD_app_lt (by omega)
      have fnew : (fw key x ++ [x]).getD (dvd key x).2 0 = x := getD_app_at (by omega)
      simp only
      refine ⟨fun y hy => ?_, fun i hi => ?_, fun y z hy hz he => ?_⟩
      · by_cases hyx : y = x
        · rw [hyx, new, fnew]; exact ⟨by omega, rfl⟩
        · obtain ⟨p, q⟩ := hA y (by omega)
          rw [old y (by omega), fold _ p]; exact ⟨by omega, q⟩
      · by_cases hii : i = (dvd key x).2
        · rw [hii, fnew, new]; exact ⟨by omega, rfl⟩
        · obtain ⟨p, q⟩ := hB i (by omega)
          rw [fold i (by omega), old _ p]; exact ⟨by omega, q⟩
      · by_cases hyx : y = x
        · by_cases hzx : z = x
          · rw [hyx, hzx]
          · exact absurd (by rw [← he, hyx]) (h2 z (by omega))
        · by_cases hzx : z = x
          · exact absurd (by rw [he, hzx]) (h2 y (by omega))
          · rw [old y (by omega), old z (by omega)]; exact hC _ _ (by omega) (by omega) he
def may (L : List (Bool × Nat × Nat)) (more : Bool) (w v : Nat) : Bool :=
  L.all fun e => if e.1 then !(e.2.1.testBit w && (!e.2.2.testBit v || more && !e.2.1.testBit v)) else !(!e.2.1.testBit w && (e.2.2.testBit v || more && e.2.1.testBit v))
/- Strings of binary digits, and a map from such strings to int64 that the call makes: what the walk of divided[string] wants. -/
open Go.RowKit Go.Maps
def dg (b : Bool) : ByteArray := ⟨#[if b then 49 else 48]⟩
/-- the digits of the first k answers -/
def ks (p : Nat → Bool) : Nat → ByteArray
  | 0 => ⟨#[]⟩
  | k + 1 => ks p k ++ dg (p k)
/-- the digits of a number below 2^N -/
def kb (a N : Nat) : ByteArray := ks a.testBit N
/- Joined of several texts: 07q, 07r, 07s, 07t, 07u. -/
open Go.RowKit
set_option linter.unusedVariables false
set_option linter.unusedSimpArgs false
/- Contracts of chapter 7, of the program: slices.Max, classCount, mapMask, quotientRelation, frameOf. -/
/- Contracts of chapter 7, of the program: quotientRelation. -/
/- Contracts of chapter 7, of the program: quotientModel. -/
/-- the classes of a model, and their number -/
def qcl (ns us : List Nat) : List Nat := (bcl ns us ns.length).1
def qn (ns us : List Nat) : Nat := mx (qcl ns us) (qcl ns us).length
/- Contracts of QuotientModel, of the program. -/
/- Contracts of chapter 7, of the reference: l07Quotient, QuotientModel. -/
/- Plain law: the quotient of a model by bisimilarity: its worlds are bisimilar to those of their classes, it keeps truth, and it is its own quotient. No program in sight. -/
open Go.RowKit
set_option linter.unusedVariables false
set_option linter.unusedSimpArgs false
/- Joined of several texts: M24, M24p. -/
open Go.RowKit
set_option linter.unusedVariables false
set_option linter.unusedSimpArgs false
/- Plain law of merging: among the correct partitions that keep the values the one with the fewest classes is that of bisimilarity. No program in sight. -/
def rgf (l : List Nat) : Prop := ∀ i, i < l.length → l.getD i 0 ≤ mx l i
theorem getD_app1 (l : List Nat) (v i : Nat) (h : i < l.length) : (l ++ [v]).getD i 0 = l.getD i 0 := by
  rw [List.getD_eq_getElem?_getD, List.getD_eq_getElem?_getD, List.getElem?_append_left h]
theorem getD_app2 (l : List Nat) (v : Nat) : (l ++ [v]).getD l.length 0 = v := by
  rw [List.getD_eq_getElem?_getD, List.getElem?_append_right (Nat.le_refl _), Nat.sub_self]; rfl
theorem mx_app (l : List Nat) (v k : Nat) (h : k ≤ l.length) : mx (l ++ [v]) k = mx l k := by
  induction k with
  | zero => rfl
  | succ k ih => rw [mx, mx, ih (by omega), getD_app1 l v k (by omega)]
theorem rgf_app {l : List Nat} {v : Nat} : rgf (l ++ [v]) ↔ rgf l ∧ v ≤ mx l l.length := by
  constructor
  · intro h
    refine ⟨fun i hi => ?_, ?_⟩
    · have := h i (by simp; omega)
      rwa [getD_app1 l v i hi, mx_app l v i (by omega)] at this
    · have := h l.length (by simp)
      rwa [getD_app2, mx_app l v _ (Nat.le_refl _)] at this
  · rintro ⟨h, hv⟩ i hi
    rw [List.length_append, List.length_singleton] at hi
    rcases Nat.lt_or_ge i l.length with h1 | h1
    · rw [getD_app1 l v i h1, mx_app l v i (by omega)]; exact h i h1
    · obtain rfl : i = l.length := by omega
      rw [getD_app2, mx_app l v _ (Nat.le_refl _)]; exact hv
/-- a correct partition -/
def corP (ns l : List Nat) : Prop := ∀ x, x < l.length → ∀ y, y < l.length → l.getD x 0 = l.getD y 0 → img (pw l) (ns.getD x 0) = img (pw l) (ns.getD y 0)
instance (ns l : List Nat) : Decidable (corP ns l) := by unfold corP; exact inferInstance
/-- elements of one class are forced the same variables -/
def alkP (us l : List Nat) : Prop := ∀ x, x < l.length → ∀ y, y < x → ∀ v, v < us.length → l.getD x 0 = l.getD y 0 → (us.getD v 0).testBit x = (us.getD v 0).testBit y
instance (us l : List Nat) : Decidable (alkP us l) := by unfold alkP; exact inferInstance
theorem dvd_rgf (key : Nat → Nat) (n : Nat) : rgf (dvd key n).1 ∧ mx (dvd key n).1 n = (dvd key n).2 := by
  induction n with
  | zero => exact ⟨fun i hi => by simp [dvd] at hi, rfl⟩
  | succ n ih =>
    obtain ⟨h1, h2⟩ := ih
    have hl := dvd_length key n
    have e2 : mx (dvd key n).1 (dvd key n).1.length = (dvd key n).2 := by rw [hl]; exact h2
    rw [dvd]
    split
    · rename_i y hy
      have hyn := List.mem_range.1 (List.mem_of_find?_eq_some hy)
      have hg := mx_gt (dvd key n).1 (k := n) (i := y) hyn
      refine ⟨rgf_app.2 ⟨h1, by omega⟩, ?_⟩
      simp only
      have e3 := getD_app2 (dvd key n).1 ((dvd key n).1.getD y 0)
      rw [hl] at e3
      rw [mx, mx_app _ _ _ (by omega), e3]
      omega
    · refine ⟨rgf_app.2 ⟨h1, by omega⟩, ?_⟩
      simp only
      have e3 := getD_app2 (dvd key n).1 (dvd key n).2
      rw [hl] at e3
      rw [mx, mx_app _ _ _ (by omega), e3]
      omega
/- Plain words of all partitions in the order the reference makes them. No program in sight. -/
def lil (L : List (List Nat)) : List (List Int) := L.map li
theorem lil_length (L : List (List Nat)) : (lil L).length = L.length := by simp [lil]
theorem lil_get (L : List (List Nat)) (i : Nat) (h : i < (lil L).length) : (lil L)[i] = li (L[i]'(by rwa [lil_length] at h)) := by simp [lil]
theorem li_snocP (l : List Nat) (v : Nat) : li (l ++ [v]) = li l ++ [(v : Int)] := by simp [li]
end Go.Proofs.YtgkogfjifcfkoaaGreat

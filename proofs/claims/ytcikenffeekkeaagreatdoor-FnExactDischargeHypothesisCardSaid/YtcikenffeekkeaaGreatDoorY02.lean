/- Joined of several texts: M02, 01, 02, 02b, Bits, 02c, 01b, 32i, 02d, M32. -/
import Derived.Test.YtcikenffeekkeaaGreatDoorRows
import Derived.Test.YtcikenffeekkeaaGreatDoorY01
import Derived.Laws.BitsAllLaws
import Derived.Laws.BitsLemmas
namespace Go.Proofs.YtcikenffeekkeaaGreatDoor
open Go.RowKit
set_option linter.unusedVariables false
set_option linter.unusedSimpArgs false
/- Plain words of chapter 2: nodes, the end of a part, formulas as trees and their lists of nodes. No program in sight. -/
/-- is x from l to h? -/
def inR (x l h : Int) : Bool := decide (l ≤ x) && decide (x ≤ h)
theorem inR_true {x l h : Int} (h1 : l ≤ x) (h2 : x ≤ h) : inR x l h = true := by simp [inR, h1, h2]
theorem inR_iff {x l h : Int} : inR x l h = true ↔ l ≤ x ∧ x ≤ h := by simp [inR]
theorem inR_false {x l h : Int} (h1 : ¬ (l ≤ x ∧ x ≤ h)) : inR x l h = false := by
  rw [← Bool.not_eq_true, inR_iff]; exact h1

abbrev Nd := Int × Int
/-- how many parts the nodes of a kind have -/
def parts (k : Int) : Int := if k = 2 ∨ k = 3 ∨ k = 4 then 2 else if k = 5 ∨ k = 6 then 1 else 0
theorem parts_range (k : Int) : 0 ≤ parts k ∧ parts k ≤ 2 := by
  unfold parts
  split
  · omega
  · split <;> omega
/-- is it a node of a formula? -/
def isNd (n : Nd) : Bool := if n.1 = 0 then inR n.2 0 5 else inR n.1 1 6 && decide (n.2 = 0)
/-- the index behind op parts that begin at index i, or -1 -/
def pe : List Nd → Int → Int → Int
  | [], op, i => if op ≤ 0 then i else -1
  | n :: t, op, i => if op ≤ 0 then i else pe t (op + (parts n.1 - 1)) (i + 1)
theorem pe_done (l : List Nd) {op : Int} (i : Int) (h : op ≤ 0) : pe l op i = i := by cases l <;> simp [pe, h]
theorem pe_step {l : List Nd} {op i : Int} {j : Nat} (hj : j < l.length) (h : 0 < op) : pe (l.drop j) op i = pe (l.drop (j + 1)) (op + (parts l[j].1 - 1)) (i + 1) := by
  rw [List.drop_eq_getElem_cons hj, pe, if_neg (by omega)]
theorem pe_out {l : List Nd} {op i : Int} {j : Nat} (hj : l.length ≤ j) (h : 0 < op) : pe (l.drop j) op i = -1 := by
  rw [List.drop_of_length_le hj, pe, if_neg (by omega)]

inductive BK where
  | and | or | imp
inductive UK where
  | box | dia
/-- formulas as trees -/
inductive Fm where
  | var (s : Nat)
  | fls
  | bin (k : BK) (a b : Fm)
  | un (k : UK) (a : Fm)
def BK.i : BK → Int | .and => 2 | .or => 3 | .imp => 4
def UK.i : UK → Int | .box => 5 | .dia => 6
theorem BK.parts (k : BK) : parts k.i = 2 := by cases k <;> rfl
theorem UK.parts (k : UK) : Go.Proofs.YtcikenffeekkeaaGreatDoor.parts k.i = 1 := by cases k <;> rfl
/-- the nodes of a formula -/
def enc : Fm → List Nd
  | .var s => [(0, (s : Int))]
  | .fls => [(1, 0)]
  | .bin k a b => (k.i, 0) :: (enc a ++ enc b)
  | .un k a => (k.i, 0) :: enc a
/-- its variables are among the six -/
def Fm.ok : Fm → Bool
  | .var s => decide (s ≤ 5)
  | .fls => true
  | .bin _ a b => a.ok && b.ok
  | .un _ a => a.ok
theorem enc_pos (f : Fm) : 0 < (enc f).length := by cases f <;> simp [enc]
theorem enc_ne (f : Fm) : enc f ≠ [] := by cases f <;> simp [enc]
theorem enc_nodes (f : Fm) (h : f.ok = true) : ∀ n ∈ enc f, isNd n = true := by
  induction f with
  | var s => intro n hn; simp [enc] at hn; subst hn; simp [Fm.ok] at h; simp [isNd, inR]; omega
  | fls => intro n hn; simp [enc] at hn; subst hn; decide
  | bin k a b iha ihb =>
    simp [Fm.ok] at h
    intro n hn
    simp [enc] at hn
    rcases hn with rfl | hn | hn
    · cases k <;> decide
    · exact iha h.1 n hn
    · exact ihb h.2 n hn
  | un k a ih =>
    simp [Fm.ok] at h
    intro n hn
    simp [enc] at hn
    rcases hn with rfl | hn
    · cases k <;> decide
    · exact ih h n hn
/-- the end of a formula's nodes -/
theorem pe_enc (f : Fm) (rest : List Nd) (op i : Int) (h : 0 ≤ op) : pe (enc f ++ rest) (op + 1) i = pe rest op (i + (enc f).length) := by
  induction f generalizing rest op i with
  | var s => simp [enc, pe, parts, show ¬ op + 1 ≤ 0 from by omega, show op + 1 + -1 = op from by omega]
  | fls => simp [enc, pe, parts, show ¬ op + 1 ≤ 0 from by omega, show op + 1 + -1 = op from by omega]
  | bin k a b iha ihb =>
    simp only [enc, List.cons_append, pe, if_neg (show ¬ op + 1 ≤ 0 from by omega), BK.parts, List.append_assoc, List.length_cons, List.length_append]
    rw [show op + 1 + (2 - 1) = (op + 1) + 1 from by omega, iha _ _ _ (by omega), ihb _ _ _ h]
    congr 1
    omega
  | un k a ih =>
    simp only [enc, List.cons_append, pe, if_neg (show ¬ op + 1 ≤ 0 from by omega), UK.parts, List.length_cons]
    rw [show op + 1 + (1 - 1) = op + 1 from by omega, ih _ _ _ h]
    congr 1
    omega
theorem pe_enc1 (f : Fm) (rest : List Nd) (i : Int) : pe (enc f ++ rest) 1 i = i + (enc f).length := by
  have := pe_enc f rest 0 i (by omega)
  rw [show (0 : Int) + 1 = 1 from rfl] at this
  rw [this, pe_done _ _ (by omega)]
/-- a list whose parts end is made of formulas -/
theorem pe_parse (xs : List Nd) (h : ∀ n ∈ xs, isNd n = true) (op : Nat) (i r : Int) (hr : pe xs op i = r) (h0 : 0 ≤ r) (hi : 0 ≤ i) :
    ∃ (fs : List Fm) (rest : List Nd), fs.length = op ∧ xs = fs.flatMap enc ++ rest ∧ r = i + (fs.flatMap enc).length ∧ ∀ f ∈ fs, f.ok = true := by
  induction xs generalizing op i with
  | nil =>
    simp only [pe] at hr
    by_cases ho : (op : Int) ≤ 0
    · rw [if_pos ho] at hr
      exact ⟨[], [], by simp; omega, by simp, by simp [hr], by simp⟩
    · rw [if_neg ho] at hr
      omega
  | cons n t ih =>
    simp only [pe] at hr
    by_cases ho : (op : Int) ≤ 0
    · rw [if_pos ho] at hr
      exact ⟨[], n :: t, by simp; omega, by simp, by simp [hr], by simp⟩
    · rw [if_neg ho] at hr
      have hp := parts_range n.1
      obtain ⟨m, hm⟩ : ∃ m : Nat, (op : Int) + (parts n.1 - 1) = m := ⟨(op + (parts n.1 - 1)).toNat, by omega⟩
      rw [hm] at hr
      obtain ⟨fs, rest, h1, h2, h3, h4⟩ := ih (fun x hx => h x (List.mem_cons_of_mem _ hx)) m (i + 1) hr (by omega)
      have hn := h n (List.mem_cons_self)
      by_cases hk2 : n.1 = 2 ∨ n.1 = 3 ∨ n.1 = 4
      · have hp2 : parts n.1 = 2 := by unfold parts; rw [if_pos hk2]
        match fs, h1, h2, h3, h4 with
        | a :: b :: fs, h1, h2, h3, h4 =>
          obtain ⟨k, hk⟩ : ∃ k : BK, k.i = n.1 := by
            rcases hk2 with e | e | e
            · exact ⟨.and, e.symm⟩
            · exact ⟨.or, e.symm⟩
            · exact ⟨.imp, e.symm⟩
          have hs : n = (k.i, 0) := by
            have : n.1 ≠ 0 := by omega
            simp [isNd, this] at hn
            exact Prod.ext hk.symm hn.2
          refine ⟨.bin k a b :: fs, rest, by simp at h1 ⊢; omega, ?_, ?_, ?_⟩
          · rw [h2, hs]; simp [enc]
          · rw [h3]; simp [enc]; omega
          · intro f hf
            rcases List.mem_cons.1 hf with rfl | hf
            · simp [Fm.ok, h4 a (by simp), h4 b (by simp)]
            · exact h4 f (by simp [hf])
        | [a], h1, _, _, _ => simp at h1; omega
        | [], h1, _, _, _ => simp at h1; omega
      · by_cases hk1 : n.1 = 5 ∨ n.1 = 6
        · have hp1 : parts n.1 = 1 := by unfold parts; rw [if_neg hk2, if_pos hk1]
          match fs, h1, h2, h3, h4 with
          | a :: fs, h1, h2, h3, h4 =>
            obtain ⟨k, hk⟩ : ∃ k : UK, k.i = n.1 := by
              rcases hk1 with e | e
              · exact ⟨.box, e.symm⟩
              · exact ⟨.dia, e.symm⟩
            have hs : n = (k.i, 0) := by
              have : n.1 ≠ 0 := by omega
              simp [isNd, this] at hn
              exact Prod.ext hk.symm hn.2
            refine ⟨.un k a :: fs, rest, by simp at h1 ⊢; omega, ?_, ?_, ?_⟩
            · rw [h2, hs]; simp [enc]
            · rw [h3]; simp [enc]; omega
            · intro f hf
              rcases List.mem_cons.1 hf with rfl | hf
              · simp [Fm.ok, h4 a (by simp)]
              · exact h4 f (by simp [hf])
          | [], h1, _, _, _ => simp at h1; omega
        · have hp0 : parts n.1 = 0 := by unfold parts; rw [if_neg hk2, if_neg hk1]
          by_cases hz : n.1 = 0
          · simp [isNd, hz, inR] at hn
            have hs : n = (0, ((n.2.toNat : Nat) : Int)) := Prod.ext hz (by simp; omega)
            refine ⟨.var n.2.toNat :: fs, rest, by simp at h1 ⊢; omega, ?_, ?_, ?_⟩
            · rw [h2]; simp only [List.flatMap_cons, enc, List.cons_append, List.nil_append, ← hs]
            · rw [h3]; simp [enc]; omega
            · intro f hf
              rcases List.mem_cons.1 hf with rfl | hf
              · simp [Fm.ok]; omega
              · exact h4 f hf
          · simp [isNd, hz, inR] at hn
            have hs : n = (1, 0) := Prod.ext (by simp; omega) hn.2
            refine ⟨.fls :: fs, rest, by simp at h1 ⊢; omega, ?_, ?_, ?_⟩
            · rw [h2, hs]; simp [enc]
            · rw [h3]; simp [enc]; omega
            · intro f hf
              rcases List.mem_cons.1 hf with rfl | hf
              · rfl
              · exact h4 f hf
/-- is it a formula, whatever its length? -/
def isT (xs : List Nd) : Bool := xs.all isNd && decide (pe xs 1 0 = xs.length) && decide (0 < xs.length)
/-- is it a formula of at most forty nodes? -/
def isF (xs : List Nd) : Bool := decide (xs.length ≤ 40) && isT xs
theorem isT_enc (f : Fm) (h : f.ok = true) : isT (enc f) = true := by
  have h1 := pe_enc1 f [] 0
  rw [List.append_nil] at h1
  have h2 := enc_pos f
  have h3 : (enc f).all isNd = true := List.all_eq_true.2 (enc_nodes f h)
  simp only [isT, h3, h1]
  simp [h2]
theorem isT_iff (xs : List Nd) : isT xs = true ↔ ∃ f : Fm, f.ok = true ∧ xs = enc f := by
  constructor
  · intro h
    simp [isT] at h
    obtain ⟨⟨h1, h2⟩, h3⟩ := h
    obtain ⟨fs, rest, e1, e2, e3, e4⟩ := pe_parse xs (fun n hn => h1 n.1 n.2 hn) 1 0 xs.length h2 (by omega) (by omega)
    match fs, e1 with
    | [f], _ =>
      refine ⟨f, e4 f (by simp), ?_⟩
      have hr : rest = [] := by
        apply List.eq_nil_of_length_eq_zero
        have := congrArg List.length e2
        simp at this e3
        omega
      rw [e2, hr]
      simp
  · rintro ⟨f, hf, rfl⟩
    exact isT_enc f hf
theorem isF_iff (xs : List Nd) : isF xs = true ↔ ∃ f : Fm, f.ok = true ∧ xs = enc f ∧ (enc f).length ≤ 40 := by
  simp only [isF, Bool.and_eq_true, isT_iff, decide_eq_true_eq]
  constructor
  · rintro ⟨h, f, hf, rfl⟩
    exact ⟨f, hf, rfl, h⟩
  · rintro ⟨f, hf, rfl, h⟩
    exact ⟨h, f, hf, rfl⟩
/- Contracts of the small functions of chapter 1, of the program and of the reference. -/
theorem impl_inRange (x l h : Int) (w : World) :
    Calls Tryz.prog 83 #[.int .i64 x, .int .i64 l, .int .i64 h] w fun e w' => e = .returned (.bool (inR x l h)) ∧ w = w' := by
  by_cases h1 : l ≤ x <;> by_cases h2 : x ≤ h
  all_goals
    go_enter Tryz.func83, Tryz.ntmps83
    go_wp2
    go_ret
    exact ⟨by simp [inR, h1, h2], rfl⟩
theorem spec_l01In (x l h : Int) (w : World) :
    Calls Tryz.prog 72 #[.int .i64 x, .int .i64 l, .int .i64 h] w fun e w' => e = .returned (.bool (inR x l h)) ∧ w = w' := by
  by_cases h1 : l ≤ x <;> by_cases h2 : x ≤ h
  all_goals
    go_enter Tryz.func72, Tryz.ntmps72
    go_wp2
    go_ret
    exact ⟨by simp [inR, h1, h2], rfl⟩
/-- powers of two, to 62 -/
theorem two_pow_le {n : Nat} (h : n ≤ 62) : (2 : Int) ^ n ≤ 4611686018427387904 := by
  have h1 : (2 : Nat) ^ n ≤ 2 ^ 62 := Nat.pow_le_pow_right (by decide) h
  have h2 : (2 : Int) ^ n = ((2 ^ n : Nat) : Int) := by rw [Int.natCast_pow]; rfl
  rw [h2]
  have h3 : (2 : Nat) ^ 62 = 4611686018427387904 := by decide
  omega
theorem wrap_two_pow {n : Nat} (h : n ≤ 62) : wrap64 ((2 : Int) ^ n) = 2 ^ n := by
  have h1 := two_pow_le h
  have h2 : (0 : Int) < 2 ^ n := Int.pow_pos (by decide)
  exact IntWalk.wrap64_in _ ⟨by omega, by omega⟩
/- Contracts of chapter 2's functions on formulas, of the program and of the reference. -/

theorem Sl.atN {w : World} {A : Option Addr} {n c : Nat} {xs : List Nd} (h : Sl cN w (.slice A n c) xs) {k : Nat} (hk : k < xs.length) :
    ∃ b o, A = some ⟨b, o, none⟩ ∧ b < w.heap.size ∧ w.cell? ⟨b, o + k * 2, none⟩ = some (.int .i64 xs[k].1) ∧ w.cell? ⟨b, o + k * 2 + 1, none⟩ = some (.int .i64 xs[k].2) := by
  obtain ⟨b, o, hA, hb, hc⟩ := h.cell hk
  exact ⟨b, o, hA, hb, hc 0 _ rfl, hc 1 _ rfl⟩
theorem impl_partsOf (k : Int) (w : World) :
    Calls Tryz.prog 95 #[.int .i64 k] w fun e w' => e = .returned (.int .i64 (parts k)) ∧ w = w' := by
  by_cases h2 : k = 2
  · subst h2
    go_enter Tryz.func95, Tryz.ntmps95
    go_wp2
    go_ret
    exact ⟨rfl, rfl⟩
  by_cases h3 : k = 3
  · subst h3
    go_enter Tryz.func95, Tryz.ntmps95
    go_wp2
    go_ret
    exact ⟨rfl, rfl⟩
  by_cases h4 : k = 4
  · subst h4
    go_enter Tryz.func95, Tryz.ntmps95
    go_wp2
    go_ret
    exact ⟨rfl, rfl⟩
  by_cases h5 : k = 5
  · subst h5
    go_enter Tryz.func95, Tryz.ntmps95
    go_wp2
    go_ret
    exact ⟨rfl, rfl⟩
  by_cases h6 : k = 6
  · subst h6
    go_enter Tryz.func95, Tryz.ntmps95
    go_wp2
    go_ret
    exact ⟨rfl, rfl⟩
  have e : parts k = 0 := by simp [parts, h2, h3, h4, h5, h6]
  have E := Lib.hid e; clear e
  go_enter Tryz.func95, Tryz.ntmps95
  go_wp2
  go_ret
  exact ⟨by rw [E.out]; rfl, rfl⟩
theorem spec_l02Parts (k : Int) (w : World) :
    Calls Tryz.prog 90 #[.int .i64 k] w fun e w' => e = .returned (.int .i64 (parts k)) ∧ w = w' := by
  by_cases h2 : k = 2
  · subst h2
    go_enter Tryz.func90, Tryz.ntmps90
    go_wp2
    go_ret
    exact ⟨rfl, rfl⟩
  by_cases h3 : k = 3
  · subst h3
    go_enter Tryz.func90, Tryz.ntmps90
    go_wp2
    go_ret
    exact ⟨rfl, rfl⟩
  by_cases h4 : k = 4
  · subst h4
    go_enter Tryz.func90, Tryz.ntmps90
    go_wp2
    go_ret
    exact ⟨rfl, rfl⟩
  by_cases h5 : k = 5
  · subst h5
    go_enter Tryz.func90, Tryz.ntmps90
    go_wp2
    go_ret
    exact ⟨rfl, rfl⟩
  by_cases h6 : k = 6
  · subst h6
    go_enter Tryz.func90, Tryz.ntmps90
    go_wp2
    go_ret
    exact ⟨rfl, rfl⟩
  have e : parts k = 0 := by simp [parts, h2, h3, h4, h5, h6]
  have E := Lib.hid e; clear e
  go_enter Tryz.func90, Tryz.ntmps90
  go_wp2
  go_ret
  exact ⟨by rw [E.out]; rfl, rfl⟩
theorem impl_isVariable (x : Int) (w : World) :
    Calls Tryz.prog 94 #[.int .i64 x] w fun e w' => e = .returned (.bool (inR x 0 5)) ∧ w = w' := by
  go_enter Tryz.func94, Tryz.ntmps94
  go_wp2_with fail
  refine (impl_inRange _ _ _ _).mono ?_
  rintro e w1 ⟨rfl, rfl⟩
  go_wp2
  go_ret
  exact ⟨rfl, rfl⟩
theorem impl_isNode (k s : Int) (w : World) :
    Calls Tryz.prog 80 #[.agg #[.int .i64 k, .int .i64 s]] w fun e w' => e = .returned (.bool (isNd (k, s))) ∧ Below w.heap.size w w' := by
  by_cases hk : k = 0
  · subst hk
    have e : isNd (0, s) = inR s 0 5 := by simp [isNd]
    have E := Lib.hid e; clear e
    go_enter Tryz.func80, Tryz.ntmps80
    go_wp2_with fail
    refine (impl_isVariable _ _).mono ?_
    rintro e w1 ⟨rfl, rfl⟩
    go_wp2
    go_ret
    exact ⟨by rw [E.out]; rfl, (Below.refl _ _).alloc (Nat.le_refl _) _⟩
  · by_cases hr : inR k 1 6 = true
    · have e : isNd (k, s) = (s == 0) := by simp [isNd, hk, hr]; rw [Bool.eq_iff_iff]; simp
      have E := Lib.hid e; clear e
      have HR := Lib.hid hr; clear hr
      go_enter Tryz.func80, Tryz.ntmps80
      go_wp2_with fail
      refine (impl_inRange _ _ _ _).mono ?_
      rintro e w1 ⟨rfl, rfl⟩
      rw [HR.out]
      go_wp2
      go_ret
      exact ⟨by rw [E.out]; rfl, (Below.refl _ _).alloc (Nat.le_refl _) _⟩
    · rw [Bool.not_eq_true] at hr
      have e : isNd (k, s) = false := by simp [isNd, hk, hr]
      have E := Lib.hid e; clear e
      have HR := Lib.hid hr; clear hr
      go_enter Tryz.func80, Tryz.ntmps80
      go_wp2_with fail
      refine (impl_inRange _ _ _ _).mono ?_
      rintro e w1 ⟨rfl, rfl⟩
      rw [HR.out]
      go_wp2
      go_ret
      exact ⟨by rw [E.out]; rfl, (Below.refl _ _).alloc (Nat.le_refl _) _⟩
theorem impl_isFormula_1 (k s : Int) (w : World) :
    Calls Tryz.prog 79 #[.agg #[.int .i64 k, .int .i64 s]] w fun e w' => e = .returned (.bool (!isNd (k, s))) ∧ Below w.heap.size w w' := by
  go_enter Tryz.func79, Tryz.ntmps79
  go_wp2_with fail
  refine (impl_isNode _ _ _).mono ?_
  rintro e w1 ⟨rfl, hb⟩
  have HB : Hid (Below w.heap.size w w1) := Lib.hid (((Below.refl _ _).alloc (Nat.le_refl _) _).trans (hb.mono (by simp)))
  clear hb
  go_wp2
  go_ret
  exact ⟨rfl, HB.out⟩
theorem impl_partEnd (v : Value) (xs : List Nd) (i : Nat) (w : World) (h : Sl cN w v xs) (hl : xs.length ≤ 1073741824) (hi : i ≤ 1073741824) :
    Calls Tryz.prog 81 #[v, .int .i64 i] w fun e w' => e = .returned (.int .i64 (pe (xs.drop i) 1 i)) ∧ w = w' := by
  obtain ⟨A, c, rfl⟩ := h.opn
  go_enter Tryz.func81, Tryz.ntmps81
  go_wp2
  go_loop [1, 5] (fun t op => ∃ (j : Nat) (q : Int), j ≤ 1073741824 + xs.length ∧ 0 ≤ q ∧ q ≤ j + 1 ∧ t = .int .i64 j ∧ op = .int .i64 q ∧ pe (xs.drop i) 1 i = pe (xs.drop j) q j ∧ (j ≤ i ∨ j ≤ xs.length)) (fun t _ => 1073741824 + xs.length + 1 - (intOf t).toNat)
  case atStart => exact ⟨i, 1, by omega, by omega, by omega, rfl, rfl, rfl, by omega⟩
  case round =>
    obtain ⟨j, q, hj, hq, hq2, rfl, rfl, hh, hor⟩ := hrel
    have Hh := Lib.hid hh; clear hh
    by_cases hop : 0 < q
    · by_cases hlt : j < xs.length
      · obtain ⟨b, o, rfl, hb, hc0, hc1⟩ := h.atN hlt
        have hp := parts_range xs[j].1
        go_wp2_with fail
        refine (impl_partsOf _ _).mono ?_
        rintro e w1 ⟨rfl, rfl⟩
        have E := Lib.hid (pe_step (l := xs) (op := q) (i := (j : Int)) hlt hop)
        go_wp2
        go_round
        case rel => exact ⟨j + 1, q + (parts xs[j].1 - 1), by omega, by omega, by omega, by go_num, rfl, by rw [Hh.out, E.out]; rfl, by omega⟩
        case measure => simp [intOf]; omega
      · go_wp2
        go_ret
        exact ⟨by rw [Hh.out, pe_out (by omega) hop]; rfl, rfl⟩
    · go_wp2
      go_ret
      exact ⟨by rw [Hh.out, pe_done _ _ (by omega)]; rfl, rfl⟩
theorem spec_l02Part (v : Value) (xs : List Nd) (i : Nat) (w : World) (h : Sl cN w v xs) (hl : xs.length ≤ 1073741824) (hi : i ≤ 1073741824) :
    Calls Tryz.prog 73 #[v, .int .i64 i] w fun e w' => e = .returned (.int .i64 (pe (xs.drop i) 1 i)) ∧ w = w' := by
  obtain ⟨A, c, rfl⟩ := h.opn
  go_enter Tryz.func73, Tryz.ntmps73
  go_wp2
  go_loop [1, 5] (fun t op => ∃ (j : Nat) (q : Int), j ≤ 1073741824 + xs.length ∧ 0 ≤ q ∧ q ≤ j + 1 ∧ t = .int .i64 j ∧ op = .int .i64 q ∧ pe (xs.drop i) 1 i = pe (xs.drop j) q j ∧ (j ≤ i ∨ j ≤ xs.length)) (fun t _ => 1073741824 + xs.length + 1 - (intOf t).toNat)
  case atStart => exact ⟨i, 1, by omega, by omega, by omega, rfl, rfl, rfl, by omega⟩
  case round =>
    obtain ⟨j, q, hj, hq, hq2, rfl, rfl, hh, hor⟩ := hrel
    have Hh := Lib.hid hh; clear hh
    by_cases hop : 0 < q
    · by_cases hlt : j < xs.length
      · obtain ⟨b, o, rfl, hb, hc0, hc1⟩ := h.atN hlt
        have hp := parts_range xs[j].1
        go_wp2_with fail
        refine (spec_l02Parts _ _).mono ?_
        rintro e w1 ⟨rfl, rfl⟩
        have E := Lib.hid (pe_step (l := xs) (op := q) (i := (j : Int)) hlt hop)
        go_wp2
        go_round
        case rel => exact ⟨j + 1, q + (parts xs[j].1 - 1), by omega, by omega, by omega, by go_num, by go_num, by rw [Hh.out, E.out]; rfl, by omega⟩
        case measure => simp [intOf]; omega
      · go_wp2
        go_ret
        exact ⟨by rw [Hh.out, pe_out (by omega) hop]; rfl, rfl⟩
    · go_wp2
      go_ret
      exact ⟨by rw [Hh.out, pe_done _ _ (by omega)]; rfl, rfl⟩
/- Contracts of chapter 2, more: is a list a formula? -/
/-- a call of a function of the program's own enters it -/
theorem enters {P : Program} {k : FuncId} {fn : Func} (hf : P.funcs[k]? = some fn) (hn : (fn.name == "runtime.NumGoroutine") = false) (hb : fn.body.isNone = false) :
    ∀ (args : Array Value) (w : World), (callFunc k args).run P w = .ok (.enter k args) w := by
  intro args w
  have h1 : fn.name ≠ "runtime.NumGoroutine" := by simpa using hn
  have h2 : fn.body ≠ none := fun e => by rw [e] at hb; cases hb
  simp [callFunc, hf, program, Sem.run, h1, h2]
theorem slices_IndexFunc_node (v : Value) (xs : List Nd) (k : FuncId) (cap : Array Value) (p : Nd → Bool) (w : World) (h : Sl cN w v xs) (hl : xs.length ≤ 1073741824)
    (hk : ∀ (args : Array Value) (w : World), (callFunc k args).run Tryz.prog w = .ok (.enter k args) w)
    (hf : ∀ w', Below w.heap.size w w' → ∀ (a b : Int), Calls Tryz.prog k (#[.agg #[.int .i64 a, .int .i64 b]] ++ cap) w' fun e w'' => e = .returned (.bool (p (a, b))) ∧ Below w'.heap.size w' w'') :
    Calls Tryz.prog 93 #[v, .func (.func k) #[] cap] w fun e w' => ∃ r : Int, e = .returned (.int .i64 r) ∧ (decide (0 ≤ r) = xs.any p) ∧ Below w.heap.size w w' := by
  obtain ⟨A, c, rfl⟩ := h.opn
  have HF := Lib.hid hf; clear hf
  go_enter Tryz.func93, Tryz.ntmps93
  go_wp2
  go_loopw [8] (fun i wr => ∃ j : Nat, j ≤ xs.length ∧ i = .int .i64 j ∧ (xs.take j).any p = false ∧ Below w.heap.size w wr) (fun i _ => xs.length - (intOf i).toNat)
  case atStart => exact ⟨0, Nat.zero_le _, rfl, rfl, Below.refl _ _⟩
  case round =>
    obtain ⟨j, hj, rfl, hh, hb⟩ := hrel
    have Hh := Lib.hid hh; clear hh
    by_cases hlt : j < xs.length
    · obtain ⟨b, o, rfl, hbl, hc0, hc1⟩ := (h.below hb).atN hlt
      go_wp2_with fail
      refine (HF.out wr hb _ _).mono ?_
      rintro e w1 ⟨rfl, hb1⟩
      have HB : Hid (Below w.heap.size w w1) := Lib.hid (hb.trans (hb1.mono hb.size))
      have HT : Hid ((xs.take (j + 1)).any p = p (xs[j].1, xs[j].2)) := by
        show _ = _
        rw [List.take_succ_eq_append_getElem hlt, List.any_append, Hh.out]
        simp
      have HM : xs[j] ∈ xs := List.getElem_mem hlt
      have HA : Hid (p (xs[j].1, xs[j].2) = true → xs.any p = true) := fun h1 => List.any_eq_true.2 ⟨_, HM, h1⟩
      clear hb1 hb HM
      by_cases hp : p (xs[j].1, xs[j].2) = true
      · rw [hp]
        have HP := Lib.hid hp; clear hp
        go_wp2
        go_ret
        exact ⟨j, rfl, by rw [HA.out HP.out]; simp, HB.out⟩
      · rw [Bool.not_eq_true] at hp
        rw [hp]
        have HP := Lib.hid hp; clear hp
        go_wp2
        go_roundw
        case rel => exact ⟨j + 1, by omega, by go_num, by rw [HT.out, HP.out], HB.out⟩
        case measure => simp [intOf]; omega
    · have HE : Hid (xs.any p = false) := by
        have := Hh.out
        rw [List.take_of_length_le (by omega)] at this
        exact this
      have HB := Lib.hid hb; clear hb
      go_wp2
      go_ret
      exact ⟨-1, rfl, by rw [HE.out]; decide, HB.out⟩
theorem slices_ContainsFunc_node (v : Value) (xs : List Nd) (k : FuncId) (cap : Array Value) (p : Nd → Bool) (w : World) (h : Sl cN w v xs) (hl : xs.length ≤ 1073741824)
    (hk : ∀ (args : Array Value) (w : World), (callFunc k args).run Tryz.prog w = .ok (.enter k args) w)
    (hf : ∀ w', Below w.heap.size w w' → ∀ (a b : Int), Calls Tryz.prog k (#[.agg #[.int .i64 a, .int .i64 b]] ++ cap) w' fun e w'' => e = .returned (.bool (p (a, b))) ∧ Below w'.heap.size w' w'') :
    Calls Tryz.prog 78 #[v, .func (.func k) #[] cap] w fun e w' => e = .returned (.bool (xs.any p)) ∧ Below w.heap.size w w' := by
  have HC := Lib.hid (slices_IndexFunc_node v xs k cap p w h hl hk hf); clear hf hk
  go_enter Tryz.func78, Tryz.ntmps78
  go_wp2_with fail
  refine HC.out.mono ?_
  rintro e w1 ⟨r, rfl, hr, hb⟩
  have HR := Lib.hid hr; clear hr
  have HB := Lib.hid hb; clear hb
  go_wp2
  go_ret
  exact ⟨by rw [← HR.out]; rfl, HB.out⟩
theorem en_isFormula_1 : ∀ (args : Array Value) (w : World), (callFunc 79 args).run Tryz.prog w = .ok (.enter 79 args) w := enters Tryz.func79 (by kernel_rfl) (by kernel_rfl)
theorem impl_isFormula (v : Value) (xs : List Nd) (w : World) (h : Sl cN w v xs) (hl : xs.length ≤ 1073741824) :
    Calls Tryz.prog 63 #[v] w fun e w' => e = .returned (.bool (isF xs)) ∧ Below w.heap.size w w' := by
  obtain ⟨A, c, rfl⟩ := h.opn
  by_cases h1 : 1 ≤ xs.length
  · by_cases h2 : xs.length ≤ 40
    · go_enter Tryz.func63, Tryz.ntmps63
      go_wp2_with fail
      refine (slices_ContainsFunc_node _ xs _ _ (fun n => !isNd n) _ h hl en_isFormula_1 (fun w' _ a b => by rw [Array.append_empty]; exact impl_isFormula_1 a b w')).mono ?_
      rintro e w1 ⟨rfl, hb⟩
      have h' := h.below hb
      have HB := Lib.hid hb; clear hb
      by_cases h3 : xs.any (fun n => !isNd n) = true
      · have e : isF xs = false := by
          have : xs.all isNd = false := by
            rw [← Bool.not_eq_true]
            intro ha
            obtain ⟨x, hx, hn⟩ := List.any_eq_true.1 h3
            have := List.all_eq_true.1 ha x hx
            simp [this] at hn
          simp [isF, isT, this]
        have E := Lib.hid e; clear e
        rw [h3]
        have H3 := Lib.hid h3; clear h3
        go_wp2
        go_ret
        exact ⟨by rw [E.out]; rfl, HB.out⟩
      · rw [Bool.not_eq_true] at h3
        have e : isF xs = decide (pe xs 1 0 = xs.length) := by
          have h4 : xs.all isNd = true := by
            rw [List.all_eq_true]
            intro x hx
            have := List.any_eq_false.1 h3 x hx
            simpa using this
          simp only [isF, isT, h4, decide_eq_true h2, decide_eq_true (show 0 < xs.length from h1), Bool.true_and, Bool.and_true]
        have E := Lib.hid e; clear e
        rw [h3]
        have H3 := Lib.hid h3; clear h3
        go_wp2_with fail
        refine (impl_partEnd _ xs 0 _ h' hl (by omega)).mono ?_
        rintro e w2 ⟨rfl, rfl⟩
        rw [List.drop_zero]
        go_wp2
        go_ret
        exact ⟨by rw [E.out]; first | rfl | (congr 2; rw [Bool.eq_iff_iff]; simp), HB.out⟩
    · have e : isF xs = false := by simp [isF]; omega
      have E := Lib.hid e; clear e
      go_enter Tryz.func63, Tryz.ntmps63
      go_wp2
      go_ret
      exact ⟨by rw [E.out]; rfl, Below.refl _ _⟩
  · have e : isF xs = false := by
      have h0 : decide (0 < xs.length) = false := by simp only [decide_eq_false_iff_not]; omega
      simp only [isF, isT, h0, Bool.and_false]
    have E := Lib.hid e; clear e
    go_enter Tryz.func63, Tryz.ntmps63
    go_wp2
    go_ret
    exact ⟨by rw [E.out]; rfl, Below.refl _ _⟩
theorem isNd_cases (k s : Int) : isNd (k, s) = (inR k 0 6 && (inR s 0 5 && (decide (k = 0) || decide (s = 0)))) := by
  rw [Bool.eq_iff_iff]
  by_cases hk : k = 0
  · simp [isNd, hk, inR]
  · simp [isNd, hk, inR]
    omega
theorem spec_l02Tree (v : Value) (xs : List Nd) (w : World) (h : Sl cN w v xs) (hl : xs.length ≤ 1073741824) :
    Calls Tryz.prog 55 #[v] w fun e w' => e = .returned (.bool (isT xs)) ∧ w = w' := by
  obtain ⟨A, c, rfl⟩ := h.opn
  go_enter Tryz.func55, Tryz.ntmps55
  go_wp2
  go_loop [3] (fun i => ∃ j : Nat, j ≤ xs.length ∧ i = .int .i64 j ∧ (xs.take j).all isNd = true) (fun i => xs.length - (intOf i).toNat)
  case atStart => exact ⟨0, Nat.zero_le _, rfl, rfl⟩
  case round =>
    obtain ⟨j, hj, rfl, hh⟩ := hrel
    have Hh := Lib.hid hh; clear hh
    by_cases hlt : j < xs.length
    · obtain ⟨b, o, rfl, hbl, hc0, hc1⟩ := h.atN hlt
      have HT : Hid ((xs.take (j + 1)).all isNd = isNd (xs[j].1, xs[j].2)) := by
        show _ = _
        rw [List.take_succ_eq_append_getElem hlt, List.all_append, Hh.out]
        simp
      have HN : Hid (isNd (xs[j].1, xs[j].2) = false → isT xs = false) := by
        intro hn
        have : xs.all isNd = false := by
          rw [← Bool.not_eq_true]
          intro ha
          have := List.all_eq_true.1 ha xs[j] (List.getElem_mem hlt)
          rw [this] at hn
          cases hn
        simp [isT, this]
      rw [isNd_cases] at HT HN
      by_cases c1 : inR xs[j].1 0 6 = true
      · have HC1 := Lib.hid c1
        rw [c1] at HT HN
        clear c1
        by_cases c2 : inR xs[j].2 0 5 = true
        · have HC2 := Lib.hid c2
          rw [c2] at HT HN
          clear c2
          by_cases c3 : xs[j].1 = 0
          · have HC3 := Lib.hid (show xs[j].1 = 0 from c3)
            have d3 : (xs[j].1 != 0) = false := by simp [c3]
            have d3' : (xs[j].1 == 0) = true := by simp [c3]
            clear c3
            go_wp2_with fail
            refine (spec_l01In _ _ _ _).mono ?_
            rintro e w1 ⟨rfl, rfl⟩
            rw [HC1.out]
            go_wp2_with fail
            refine (spec_l01In _ _ _ _).mono ?_
            rintro e w1 ⟨rfl, rfl⟩
            rw [HC2.out]
            go_wp2
            go_round
            case rel => exact ⟨j + 1, by omega, by go_num, by rw [HT.out, decide_eq_true HC3.out]; rfl⟩
            case measure => simp [intOf]; omega
          · have HC3 := Lib.hid c3
            have d3 : (xs[j].1 != 0) = true := by simp [c3]
            clear c3
            by_cases c4 : xs[j].2 = 0
            · have HC4 := Lib.hid c4
              have d4 : (xs[j].2 != 0) = false := by simp [c4]
              clear c4
              go_wp2_with fail
              refine (spec_l01In _ _ _ _).mono ?_
              rintro e w1 ⟨rfl, rfl⟩
              rw [HC1.out]
              go_wp2_with fail
              refine (spec_l01In _ _ _ _).mono ?_
              rintro e w1 ⟨rfl, rfl⟩
              rw [HC2.out]
              go_wp2
              go_round
              case rel => exact ⟨j + 1, by omega, by go_num, by rw [HT.out, decide_eq_true HC4.out]; simp⟩
              case measure => simp [intOf]; omega
            · have HC4 := Lib.hid c4
              have d4 : (xs[j].2 != 0) = true := by simp [c4]
              clear c4
              go_wp2_with fail
              refine (spec_l01In _ _ _ _).mono ?_
              rintro e w1 ⟨rfl, rfl⟩
              rw [HC1.out]
              go_wp2_with fail
              refine (spec_l01In _ _ _ _).mono ?_
              rintro e w1 ⟨rfl, rfl⟩
              rw [HC2.out]
              go_wp2
              go_ret
              exact ⟨by rw [HN.out (by rw [decide_eq_false HC3.out, decide_eq_false HC4.out]; rfl)]; rfl, rfl⟩
        · rw [Bool.not_eq_true] at c2
          have HC2 := Lib.hid c2
          rw [c2] at HT HN
          clear c2
          go_wp2_with fail
          refine (spec_l01In _ _ _ _).mono ?_
          rintro e w1 ⟨rfl, rfl⟩
          rw [HC1.out]
          go_wp2_with fail
          refine (spec_l01In _ _ _ _).mono ?_
          rintro e w1 ⟨rfl, rfl⟩
          rw [HC2.out]
          go_wp2
          go_ret
          exact ⟨by rw [HN.out (by rfl)]; rfl, rfl⟩
      · rw [Bool.not_eq_true] at c1
        have HC1 := Lib.hid c1
        rw [c1] at HT HN
        clear c1
        go_wp2_with fail
        refine (spec_l01In _ _ _ _).mono ?_
        rintro e w1 ⟨rfl, rfl⟩
        rw [HC1.out]
        go_wp2
        go_ret
        exact ⟨by rw [HN.out (by rfl)]; rfl, rfl⟩
    · have ha : xs.all isNd = true := by
        have := Hh.out
        rw [List.take_of_length_le (by omega)] at this
        exact this
      have HA := Lib.hid ha; clear ha
      by_cases hp : 0 < xs.length
      · have hp' : ((xs.length : Int) > 0) = True := by simp; omega
        have e : isT xs = decide (pe xs 1 0 = xs.length) := by
          simp only [isT, HA.out, decide_eq_true hp, Bool.true_and, Bool.and_true]
        have E := Lib.hid e; clear e
        clear hp'
        go_wp2_with fail
        refine (spec_l02Part _ xs 0 _ h hl (by omega)).mono ?_
        rintro e w2 ⟨rfl, rfl⟩
        rw [List.drop_zero]
        go_wp2
        go_ret
        exact ⟨by rw [E.out]; first | rfl | (congr 2; rw [Bool.eq_iff_iff]; simp), rfl⟩
      · have e : isT xs = false := by
          have h0 : decide (0 < xs.length) = false := by simp only [decide_eq_false_iff_not]; omega
          simp only [isT, h0, Bool.and_false]
        have E := Lib.hid e; clear e
        go_wp2
        go_ret
        exact ⟨by rw [E.out]; rfl, rfl⟩
theorem spec_l02Is (v : Value) (xs : List Nd) (w : World) (h : Sl cN w v xs) (hl : xs.length ≤ 1073741824) :
    Calls Tryz.prog 31 #[v] w fun e w' => e = .returned (.bool (isF xs)) ∧ w = w' := by
  obtain ⟨A, c, rfl⟩ := h.opn
  by_cases h2 : xs.length ≤ 40
  · have e : isF xs = isT xs := by simp only [isF, decide_eq_true h2, Bool.true_and]
    have E := Lib.hid e; clear e
    go_enter Tryz.func31, Tryz.ntmps31
    go_wp2_with fail
    refine (spec_l02Tree _ xs _ h hl).mono ?_
    rintro e w2 ⟨rfl, rfl⟩
    go_wp2
    go_ret
    exact ⟨by rw [E.out]; rfl, rfl⟩
  · have e : isF xs = false := by simp only [isF, decide_eq_false h2, Bool.false_and]
    have E := Lib.hid e; clear e
    go_enter Tryz.func31, Tryz.ntmps31
    go_wp2
    go_ret
    exact ⟨by rw [E.out]; rfl, rfl⟩
/- Small facts on bits of int64s that are not below zero. -/
theorem ofInt_i64 (a : Nat) (ha : a < 9223372036854775808) : (BitVec.ofInt 64 (a : Int)).toNat = a := by
  rw [BitVec.ofInt_natCast, BitVec.toNat_ofNat]; exact Nat.mod_eq_of_lt (by omega)
theorem i64_and_nat (a b : Nat) (ha : a < 9223372036854775808) (hb : b < 9223372036854775808) : bits .and .i64 (a : Int) (b : Int) = ((a &&& b : Nat) : Int) := by
  have hx : a &&& b < 2 ^ 63 := Nat.and_lt_two_pow _ (by omega)
  show IntKind.i64.wrap ((BitVec.ofInt 64 (a : Int) &&& BitVec.ofInt 64 (b : Int)).toNat : Int) = _
  rw [BitVec.toNat_and, ofInt_i64 a ha, ofInt_i64 b hb, IntKind.wrap_i64]
  omega
theorem i64_or_nat (a b : Nat) (ha : a < 9223372036854775808) (hb : b < 9223372036854775808) : bits .or .i64 (a : Int) (b : Int) = ((a ||| b : Nat) : Int) := by
  have hx : a ||| b < 2 ^ 63 := Nat.or_lt_two_pow (by omega) (by omega)
  show IntKind.i64.wrap ((BitVec.ofInt 64 (a : Int) ||| BitVec.ofInt 64 (b : Int)).toNat : Int) = _
  rw [BitVec.toNat_or, ofInt_i64 a ha, ofInt_i64 b hb, IntKind.wrap_i64]
  omega
theorem cast_two_pow (n : Nat) : (2 : Int) ^ n = ((2 ^ n : Nat) : Int) := by rw [Int.natCast_pow]; rfl
theorem wrap_two_pow' {n : Nat} (h : n ≤ 62) : wrap64 ((2 : Int) ^ n) = ((2 ^ n : Nat) : Int) := by rw [wrap_two_pow h, cast_two_pow]
theorem two_pow_lt {n : Nat} (h : n ≤ 62) : 2 ^ n < 9223372036854775808 := Nat.lt_of_le_of_lt (Nat.pow_le_pow_right (by decide) h) (by decide)
/-- the members of a mask below j, and all of them -/
def memsTo (m j : Nat) : List Int := ((List.range j).filter m.testBit).map (fun (i : Nat) => (i : Int))
def mems (m : Nat) : List Int := memsTo m 64
theorem memsTo_succ (m j : Nat) : memsTo m (j + 1) = memsTo m j ++ if m.testBit j then [(j : Int)] else [] := by
  unfold memsTo
  rw [List.range_succ, List.filter_append, List.map_append]
  congr 1
  cases h : m.testBit j <;> simp [List.filter_cons, h]
theorem memsTo_length (m j : Nat) : (memsTo m j).length ≤ j := by
  unfold memsTo
  rw [List.length_map]
  exact Nat.le_trans (List.length_filter_le _ _) (by simp)
theorem testBit_out {m j i : Nat} (h : m / 2 ^ j = 0) (hi : j ≤ i) : m.testBit i = false := by
  have h1 : m < 2 ^ j := by
    rcases Nat.lt_or_ge m (2 ^ j) with h1 | h1
    · exact h1
    · have := Nat.div_pos h1 (Nat.pow_pos (by decide)); omega
  exact Nat.testBit_lt_two_pow (Nat.lt_of_lt_of_le h1 (Nat.pow_le_pow_right (by decide) hi))
theorem memsTo_end {m j : Nat} (h : m / 2 ^ j = 0) (hj : j ≤ 64) : memsTo m j = mems m := by
  unfold mems
  obtain ⟨d, hd⟩ : ∃ d, 64 = j + d := ⟨64 - j, by omega⟩
  rw [hd]
  clear hd hj
  induction d with
  | zero => rfl
  | succ d ih => rw [← Nat.add_assoc, memsTo_succ, ← ih, testBit_out h (by omega)]; simp
theorem mems_nil (m : Nat) (h : m < 18446744073709551616) : mems m = [] ↔ m = 0 := by
  constructor
  · intro h1
    apply Nat.eq_of_testBit_eq
    intro i
    rw [Nat.zero_testBit]
    by_cases hi : i < 64
    · have : i ∉ (List.range 64).filter m.testBit := by
        intro hm
        have : (i : Int) ∈ mems m := List.mem_map.2 ⟨i, hm, rfl⟩
        rw [h1] at this
        cases this
      simp [hi] at this
      exact this
    · exact Nat.testBit_lt_two_pow (Nat.lt_of_lt_of_le h (by
        have := Nat.pow_le_pow_right (n := 2) (by decide) (show 64 ≤ i by omega)
        simpa using this))
  · rintro rfl
    simp [mems, memsTo]
theorem div_cast (m j : Nat) : (m : Int) / 2 ^ j = ((m / 2 ^ j : Nat) : Int) := by rw [cast_two_pow]; exact (Int.natCast_ediv _ _).symm
theorem testBit_form (m i : Nat) (hm : m < 9223372036854775808) : (bits .and .i64 ((m : Int) / 2 ^ i) 1 == 1) = m.testBit i := by
  have h := i64_and_nat (m / 2 ^ i) 1 (Nat.lt_of_le_of_lt (Nat.div_le_self _ _) hm) (by decide)
  rw [div_cast]
  have h2 : ((1 : Nat) : Int) = 1 := rfl
  rw [h2] at h
  rw [h, Nat.and_one_is_mod, Nat.testBit_eq_decide_div_mod_eq, Bool.eq_iff_iff, beq_iff_eq, decide_eq_true_eq]
  omega
/- Contracts of chapter 2: the variables of a formula, as a mask. -/
/-- the mask of the variables among some nodes -/
def vmask (xs : List Nd) : Nat := xs.foldl (fun m n => if n.1 = 0 then m ||| 2 ^ n.2.toNat else m) 0
theorem vmask_snoc (xs : List Nd) (n : Nd) : vmask (xs ++ [n]) = if n.1 = 0 then vmask xs ||| 2 ^ n.2.toNat else vmask xs := by simp [vmask]
theorem vmask_lt (xs : List Nd) (h : ∀ n ∈ xs, isNd n = true) : vmask xs < 64 := by
  have key : ∀ (xs : List Nd) (m : Nat), (∀ n ∈ xs, isNd n = true) → m < 2 ^ 6 → xs.foldl (fun m n => if n.1 = 0 then m ||| 2 ^ n.2.toNat else m) m < 2 ^ 6 := by
    intro xs
    induction xs with
    | nil => intro m _ hm; simpa using hm
    | cons n t ih =>
      intro m h hm
      rw [List.foldl_cons]
      refine ih _ (fun x hx => h x (List.mem_cons_of_mem _ hx)) ?_
      split
      · rename_i hz
        have hn := h n List.mem_cons_self
        simp [isNd, hz, inR] at hn
        exact Nat.or_lt_two_pow hm (Nat.pow_lt_pow_right (by decide) (by omega))
      · exact hm
  unfold vmask
  simpa using key xs 0 h (by decide)
/- Contracts of chapter 1's functions on masks: members. -/
/- Contracts of IsLetterless, of the program and of the reference. -/
theorem isF_nodes {xs : List Nd} (h : isF xs = true) : ∀ n ∈ xs, isNd n = true := by
  obtain ⟨f, hf, rfl, _⟩ := (isF_iff xs).1 h
  exact enc_nodes f hf
theorem isF_len {xs : List Nd} (h : isF xs = true) : xs.length ≤ 40 := by
  simp only [isF, Bool.and_eq_true, decide_eq_true_eq] at h
  exact h.1
/-- what IsLetterless says -/
def letterless (xs : List Nd) : Bool := decide (vmask xs = 0)
def ilOut (xs : List Nd) : Bool × Int := if isF xs then (letterless xs, 0) else (false, 1)
theorem ilOut_yes {xs : List Nd} (h : isF xs = true) : ilOut xs = (letterless xs, 0) := by simp [ilOut, h]
theorem ilOut_no {xs : List Nd} (h : isF xs = false) : ilOut xs = (false, 1) := by simp [ilOut, h]
/- Contracts of chapter 2: the parts of a formula, which share its memory. -/
/-- a cut of a slice reads as the cut of its list -/
theorem Sl.cut {α : Type} {K : Cod α} {w : World} {A : Option Addr} {n c : Nat} {xs : List α} (h : Sl K w (.slice A n c) xs) {i j c' : Nat} (hij : i ≤ j) (hj : j ≤ xs.length) (hc : j - i ≤ c') (hm : c' ≤ 9223372036854775807) :
    Sl K w (.slice (A.map (·.add (i * K.size))) (j - i) c') ((xs.drop i).take (j - i)) := by
  obtain ⟨A', c0, hv, _, _, hr⟩ := h
  injection hv with hA _ _
  subst hA
  refine ⟨_, c', by rw [List.length_take, List.length_drop]; congr 1; omega, by simp; omega, hm, ?_⟩
  rw [flat_take, flat_drop]
  exact (hr.drop _).take _
/-- the same, address and length spelled as the walk spells them -/
theorem Sl.cutAt {α : Type} {K : Cod α} {w : World} {A A' : Option Addr} {n n' c : Nat} {xs : List α} (h : Sl K w (.slice A n c) xs) {i j c' : Nat} (hij : i ≤ j) (hj : j ≤ xs.length) (hn : n' = j - i)
    (hA' : ∀ b o, A = some ⟨b, o, none⟩ → A' = some ⟨b, o + i * K.size, none⟩) (hc : n' ≤ c') (hm : c' ≤ 9223372036854775807) :
    Sl K w (.slice A' n' c') ((xs.drop i).take (j - i)) := by
  obtain ⟨A0, c0, hv, _, _, hr⟩ := h
  injection hv with hA _ _
  subst hA
  have hl : ((xs.drop i).take (j - i)).length = n' := by simp; omega
  refine ⟨_, c', by rw [hl], by rw [hl]; exact hc, hm, ?_⟩
  rcases hr with hr | ⟨b, o, hA, hb, hcell⟩
  · left
    rw [flat_take, flat_drop, hr]
    simp
  · rw [hA' b o hA, flat_take, flat_drop]
    have := ((show Rd w A (flat K xs) from .inr ⟨b, o, hA, hb, hcell⟩).drop (i * K.size)).take ((j - i) * K.size)
    rw [hA] at this
    simpa [add_lit] using this
theorem Sl.cut0 {α : Type} {K : Cod α} {w : World} {A : Option Addr} {n c : Nat} {xs : List α} (h : Sl K w (.slice A n c) xs) {j c' : Nat} (hj : j ≤ xs.length) (hc : j ≤ c') (hm : c' ≤ 9223372036854775807) :
    Sl K w (.slice A j c') (xs.take j) := by
  obtain ⟨A', c0, hv, _, _, hr⟩ := h
  injection hv with hA _ _
  subst hA
  refine ⟨_, c', by rw [List.length_take]; congr 1; omega, by simp; omega, hm, ?_⟩
  rw [flat_take]
  exact hr.take _
theorem Sl.cap {α : Type} {K : Cod α} {w : World} {A : Option Addr} {n c : Nat} {xs : List α} (h : Sl K w (.slice A n c) xs) : n = xs.length ∧ xs.length ≤ c ∧ c ≤ 9223372036854775807 := by
  obtain ⟨A', c0, hv, h1, h2, _⟩ := h
  injection hv with _ hn hc
  subst hc
  exact ⟨hn, h1, h2⟩
/-- the empty list is read anywhere -/
theorem Sl.empty {α : Type} {K : Cod α} {w : World} (A : Option Addr) (c : Nat) (hm : c ≤ 9223372036854775807) : Sl K w (.slice A 0 c) ([] : List α) := ⟨A, c, rfl, Nat.zero_le _, hm, .inl rfl⟩
/-- the part at an index -/
theorem impl_part (v : Value) (xs : List Nd) (i j : Nat) (w : World) (h : Sl cN w v xs) (hl : xs.length ≤ 1048576) (hi : i < j) (hj : j ≤ xs.length) (hp : pe (xs.drop i) 1 i = j) :
    Calls Tryz.prog 123 #[v, .int .i64 i] w fun e w' => ∃ u, e = .returned u ∧ Sl cN w u ((xs.drop i).take (j - i)) ∧ w = w' := by
  obtain ⟨A, c, rfl⟩ := h.opn
  obtain ⟨-, hc, hm⟩ := h.cap
  have HP := Lib.hid hp; clear hp
  have HC := Lib.hid (h.cut (i := i) (j := j) (c' := j - i) (by omega) hj (Nat.le_refl _) (by omega))
  go_enter Tryz.func123, Tryz.ntmps123
  go_wp2_with fail
  refine (impl_partEnd _ xs i _ h (by omega) (by omega)).mono ?_
  rintro e w1 ⟨rfl, rfl⟩
  rw [HP.out]
  go_wp2_with fail
  refine (impl_partEnd _ xs i _ h (by omega) (by omega)).mono ?_
  rintro e w1 ⟨rfl, rfl⟩
  rw [HP.out]
  have hji : ¬ j = i := by omega
  go_wp2
  go_ret
  exact ⟨_, rfl, HC.out, rfl⟩
theorem take_enc (n : Nd) (f : Fm) (rest : List Nd) : ((n :: (enc f ++ rest)).drop 1).take (enc f).length = enc f := by simp
theorem take_enc2 (n : Nd) (f g : Fm) (rest : List Nd) : ((n :: (enc f ++ (enc g ++ rest))).drop ((enc f).length + 1)).take (enc g).length = enc g := by simp
theorem pe_first (n : Nd) (f : Fm) (rest : List Nd) : pe ((n :: (enc f ++ rest)).drop 1) 1 1 = ((1 + (enc f).length : Nat) : Int) := by
  rw [List.drop_succ_cons, List.drop_zero, pe_enc1]; omega
theorem pe_second (n : Nd) (f g : Fm) (rest : List Nd) : pe ((n :: (enc f ++ (enc g ++ rest))).drop (1 + (enc f).length)) 1 ((1 + (enc f).length : Nat) : Int) = ((1 + (enc f).length + (enc g).length : Nat) : Int) := by
  rw [Nat.add_comm 1, List.drop_succ_cons, List.drop_left, pe_enc1]; omega
theorem spec_l02Left (v : Value) (n : Nd) (f : Fm) (rest : List Nd) (w : World) (h : Sl cN w v (n :: (enc f ++ rest))) (hl : (n :: (enc f ++ rest)).length ≤ 1048576) :
    Calls Tryz.prog 137 #[v] w fun e w' => ∃ u, e = .returned u ∧ Sl cN w u (enc f) ∧ w = w' := by
  obtain ⟨A, c, rfl⟩ := h.opn
  obtain ⟨-, hc, hm⟩ := h.cap
  have hpos := enc_pos f
  have hlen : (n :: (enc f ++ rest)).length = 1 + (enc f).length + rest.length := by simp; omega
  have h2 := fun A' n' hn hA => h.cutAt (A' := A') (n' := n') (i := 1) (j := 1 + (enc f).length) (c' := c - 1) (by omega) (by omega) hn hA (by omega) (by omega)
  rw [Nat.add_sub_cancel_left, take_enc] at h2
  have H2 := Lib.hid h2; clear h2
  have h1 := spec_l02Part _ _ 1 w h (by omega) (by omega)
  rw [show ((1 : Nat) : Int) = 1 from rfl, pe_first n f rest] at h1
  have H1 := Lib.hid h1; clear h1
  generalize (n :: (enc f ++ rest)).length = L at *
  generalize hm' : (enc f).length = m at *
  have HM := Lib.hid hm'; clear hm'
  have HL := Lib.hid hlen
  have hL : 1 + m ≤ L := by omega
  clear hlen
  go_enter Tryz.func137, Tryz.ntmps137
  go_wp2_with fail
  refine H1.out.mono ?_
  rintro e w1 ⟨rfl, rfl⟩
  go_wp2
  go_ret
  exact ⟨_, rfl, H2.out _ _ (by omega) (fun b o hA => by subst hA; rfl), rfl⟩
theorem spec_l02Right (v : Value) (n : Nd) (f g : Fm) (w : World) (h : Sl cN w v (n :: (enc f ++ enc g))) (hl : (n :: (enc f ++ enc g)).length ≤ 1048576) :
    Calls Tryz.prog 138 #[v] w fun e w' => ∃ u, e = .returned u ∧ Sl cN w u (enc g) ∧ w = w' := by
  obtain ⟨A, c, rfl⟩ := h.opn
  obtain ⟨-, hc, hm⟩ := h.cap
  have hpos := enc_pos f
  have hpos2 := enc_pos g
  have hlen : (n :: (enc f ++ enc g)).length = 1 + (enc f).length + (enc g).length := by simp; omega
  have h2 := fun A' n' hn hA => h.cutAt (A' := A') (n' := n') (i := 1 + (enc f).length) (j := 1 + (enc f).length + (enc g).length) (c' := c - (1 + (enc f).length)) (by omega) (by omega) hn hA (by omega) (by omega)
  have e2 := take_enc2 n f g []
  rw [List.append_nil] at e2
  rw [Nat.add_sub_cancel_left, Nat.add_comm 1 (enc f).length, e2] at h2
  have H2 := Lib.hid h2; clear h2 e2
  have h1 := spec_l02Part _ _ 1 w h (by omega) (by omega)
  rw [show ((1 : Nat) : Int) = 1 from rfl, pe_first n f (enc g), Nat.add_comm 1] at h1
  have H1 := Lib.hid h1; clear h1
  generalize (n :: (enc f ++ enc g)).length = L at *
  generalize hm' : (enc f).length = m at *
  generalize hk' : (enc g).length = k at *
  have HM := Lib.hid hm'; clear hm'
  have HK := Lib.hid hk'; clear hk'
  have HL := Lib.hid hlen
  have hL : 1 + m + k ≤ L := by omega
  have hne : ¬ c = m + 1 := by omega
  clear hlen
  go_enter Tryz.func138, Tryz.ntmps138
  go_wp2_with fail
  refine H1.out.mono ?_
  rintro e w1 ⟨rfl, rfl⟩
  go_wp2
  go_ret
  exact ⟨_, rfl, H2.out _ _ (by have := HL.out; omega) (fun b o hA => by subst hA; rfl), rfl⟩
/- Plain words of chapter 32: the ranks at which a formula is true, as masks and as rows. No program in sight. -/
/-- the mask of the numbers below k that p lets -/
def msk (p : Nat → Bool) : Nat → Nat
  | 0 => 0
  | k + 1 => msk p k ||| if p k then 2 ^ k else 0
theorem msk_testBit (p : Nat → Bool) (k i : Nat) : (msk p k).testBit i = (decide (i < k) && p i) := by
  induction k with
  | zero => simp [msk]
  | succ k ih =>
    rw [msk, Nat.testBit_or, ih]
    by_cases h : p k = true
    · rw [if_pos h, Nat.testBit_two_pow]
      by_cases hi : i = k
      · subst hi; simp [h]
      · rw [decide_eq_false (show ¬ k = i from fun e => hi e.symm), Bool.or_false]
        congr 1
        rw [Bool.eq_iff_iff, decide_eq_true_eq, decide_eq_true_eq]
        omega
    · rw [if_neg h, Nat.zero_testBit, Bool.or_false]
      rw [Bool.not_eq_true] at h
      by_cases hi : i = k
      · subst hi; simp [h]
      · congr 1
        rw [Bool.eq_iff_iff, decide_eq_true_eq, decide_eq_true_eq]
        omega
theorem msk_lt (p : Nat → Bool) (k : Nat) : msk p k < 2 ^ k := by
  induction k with
  | zero => simp [msk]
  | succ k ih =>
    rw [msk]
    have h1 : msk p k < 2 ^ (k + 1) := Nat.lt_of_lt_of_le ih (Nat.pow_le_pow_right (by decide) (by omega))
    refine Nat.or_lt_two_pow h1 ?_
    split
    · exact Nat.pow_lt_pow_right (by decide) (by omega)
    · exact Nat.pow_pos (by decide)
theorem msk_ext {a b : Nat} (k : Nat) (ha : a < 2 ^ k) (hb : b < 2 ^ k) (h : ∀ i, i < k → a.testBit i = b.testBit i) : a = b := by
  apply Nat.eq_of_testBit_eq
  intro i
  by_cases hi : i < k
  · exact h i hi
  · rw [Nat.testBit_lt_two_pow (Nat.lt_of_lt_of_le ha (Nat.pow_le_pow_right (by decide) (by omega))), Nat.testBit_lt_two_pow (Nat.lt_of_lt_of_le hb (Nat.pow_le_pow_right (by decide) (by omega)))]
theorem msk_congr (p q : Nat → Bool) (k : Nat) (h : ∀ i, i < k → p i = q i) : msk p k = msk q k :=
  msk_ext k (msk_lt _ _) (msk_lt _ _) fun i hi => by rw [msk_testBit, msk_testBit, h i hi]
theorem msk_eq {a : Nat} (k : Nat) (p : Nat → Bool) (ha : a < 2 ^ k) (h : ∀ i, i < k → a.testBit i = p i) : a = msk p k :=
  msk_ext k ha (msk_lt _ _) fun i hi => by rw [msk_testBit, h i hi, decide_eq_true hi, Bool.true_and]
theorem and_msk (p q : Nat → Bool) (k : Nat) : msk p k &&& msk q k = msk (fun i => p i && q i) k :=
  msk_eq k _ (Nat.and_lt_two_pow _ (msk_lt _ _)) fun i hi => by rw [Nat.testBit_and, msk_testBit, msk_testBit, decide_eq_true hi, Bool.true_and, Bool.true_and]
theorem or_msk (p q : Nat → Bool) (k : Nat) : msk p k ||| msk q k = msk (fun i => p i || q i) k :=
  msk_eq k _ (Nat.or_lt_two_pow (msk_lt _ _) (msk_lt _ _)) fun i hi => by rw [Nat.testBit_or, msk_testBit, msk_testBit, decide_eq_true hi, Bool.true_and, Bool.true_and]
/-- a without b -/
def andnot (a b : Nat) : Nat := a ^^^ (a &&& b)
theorem andnot_testBit (a b i : Nat) : (andnot a b).testBit i = (a.testBit i && !b.testBit i) := by
  rw [andnot, Nat.testBit_xor, Nat.testBit_and]
  cases a.testBit i <;> cases b.testBit i <;> rfl
theorem all_testBit (i : Nat) (h : i < 61) : Nat.testBit 2305843009213693951 i = true := by
  have : (2305843009213693951 : Nat) = 2 ^ 61 - 1 := by decide
  rw [this, Nat.testBit_two_pow_sub_one, decide_eq_true h]
theorem not_msk (p : Nat → Bool) : andnot 2305843009213693951 (msk p 61) = msk (fun i => !p i) 61 :=
  msk_eq 61 _ (by
      rw [andnot]
      exact Nat.xor_lt_two_pow (by decide) (Nat.and_lt_two_pow _ (msk_lt _ _)))
    fun i hi => by rw [andnot_testBit, all_testBit i hi, msk_testBit, decide_eq_true hi, Bool.true_and, Bool.true_and]

/-- the ranks at which a formula is true, if its variables are true at the ranks of a mask -/
def rk : Fm → Nat → Nat → Bool
  | .var _, vs, n => vs.testBit n
  | .fls, _, _ => false
  | .bin .and a b, vs, n => rk a vs n && rk b vs n
  | .bin .or a b, vs, n => rk a vs n || rk b vs n
  | .bin .imp a b, vs, n => !rk a vs n || rk b vs n
  | .un .box a, vs, n => (List.range n).all (rk a vs)
  | .un .dia a, vs, n => (List.range n).any (rk a vs)
theorem all_below (s n : Nat) : ((s &&& (2 ^ n - 1)) == 2 ^ n - 1) = (List.range n).all s.testBit := by
  rw [Bool.eq_iff_iff, beq_iff_eq, List.all_eq_true]
  constructor
  · intro h i hi
    have := congrArg (fun m => m.testBit i) h
    simp only [Nat.testBit_and, Nat.testBit_two_pow_sub_one] at this
    rw [decide_eq_true (List.mem_range.1 hi), Bool.and_true] at this
    exact this
  · intro h
    apply Nat.eq_of_testBit_eq
    intro i
    rw [Nat.testBit_and, Nat.testBit_two_pow_sub_one]
    by_cases hi : i < n
    · rw [h i (List.mem_range.2 hi)]; rfl
    · rw [decide_eq_false hi, Bool.and_false]
theorem any_not_all (p : Nat → Bool) (n : Nat) : (List.range n).any p = !(List.range n).all fun i => !p i := by
  rw [Bool.eq_iff_iff]
  simp
theorem msk_all (p : Nat → Bool) (k n : Nat) (h : n ≤ k) : (List.range n).all (msk p k).testBit = (List.range n).all p := by
  rw [Bool.eq_iff_iff, List.all_eq_true, List.all_eq_true]
  constructor
  · intro h1 i hi
    have := h1 i hi
    rw [msk_testBit] at this
    simp at this
    exact this.2
  · intro h1 i hi
    rw [msk_testBit, h1 i hi]
    have := List.mem_range.1 hi
    simp
    omega
theorem i64_andNot_nat (a b : Nat) (ha : a < 9223372036854775808) (hb : b < 9223372036854775808) : bits .andNot .i64 (a : Int) (b : Int) = ((andnot a b : Nat) : Int) := by
  have hx : andnot a b < 2 ^ 63 := by
    rw [andnot]
    exact Nat.xor_lt_two_pow (by omega) (Nat.and_lt_two_pow _ (by omega))
  show IntKind.i64.wrap ((BitVec.ofInt 64 (a : Int) &&& ~~~ BitVec.ofInt 64 (b : Int)).toNat : Int) = _
  have h1 : (BitVec.ofInt 64 (a : Int) &&& ~~~ BitVec.ofInt 64 (b : Int)).toNat = andnot a b := by
    apply Nat.eq_of_testBit_eq
    intro i
    rw [andnot_testBit, BitVec.toNat_and, Nat.testBit_and, ofInt_i64 a ha]
    by_cases hi : i < 64
    · congr 1
      rw [BitVec.testBit_toNat, BitVec.getLsbD_not, decide_eq_true hi, Bool.true_and, ← BitVec.testBit_toNat, ofInt_i64 b hb]
    · rw [Nat.testBit_lt_two_pow (Nat.lt_of_lt_of_le ha (by
        have := Nat.pow_le_pow_right (n := 2) (by decide) (show 63 ≤ i by omega)
        simpa using this))]
      rfl
  rw [h1, IntKind.wrap_i64]
  omega
end Go.Proofs.YtcikenffeekkeaaGreatDoor

/- Plain words of chapter 2: nodes, the end of a part, formulas as trees and their lists of nodes. No program in sight. -/
import Derived.Test.YtbejakkcdbhmaaaRows
namespace Go.Proofs.Ytbejakkcdbhmaaa
set_option linter.unusedVariables false
set_option linter.unusedSimpArgs false
/-- is x from l to h? -/
def inR (x l h : Int) : Bool := decide (l ≤ x) && decide (x ≤ h)
theorem inR_true {x l h : Int} (h1 : l ≤ x) (h2 : x ≤ h) : inR x l h = true := by simp [inR, h1, h2]
theorem inR_iff {x l h : Int} : inR x l h = true ↔ l ≤ x ∧ x ≤ h := by simp [inR]
theorem inR_false {x l h : Int} (h1 : ¬ (l ≤ x ∧ x ≤ h)) : inR x l h = false := by
  rw [← Bool.not_eq_true, inR_iff]; exact h1

abbrev Nd := Int × Int
/-- how many parts the nodes of a kind have -/
def parts (k : Int) : Int := if k = 2 ∨ k = 3 ∨ k = 4 then 2 else if k = 5 ∨ k = 6 then 1 else 0
theorem parts_range (k : Int) : 0 ≤ parts k ∧ parts k ≤ 2 := by
  unfold parts
  split
  · omega
  · split <;> omega
/-- is it a node of a formula? -/
def isNd (n : Nd) : Bool := if n.1 = 0 then inR n.2 0 5 else inR n.1 1 6 && decide (n.2 = 0)
/-- the index behind op parts that begin at index i, or -1 -/
def pe : List Nd → Int → Int → Int
  | [], op, i => if op ≤ 0 then i else -1
  | n :: t, op, i => if op ≤ 0 then i else pe t (op + (parts n.1 - 1)) (i + 1)
theorem pe_done (l : List Nd) {op : Int} (i : Int) (h : op ≤ 0) : pe l op i = i := by cases l <;> simp [pe, h]
theorem pe_step {l : List Nd} {op i : Int} {j : Nat} (hj : j < l.length) (h : 0 < op) : pe (l.drop j) op i = pe (l.drop (j + 1)) (op + (parts l[j].1 - 1)) (i + 1) := by
  rw [List.drop_eq_getElem_cons hj, pe, if_neg (by omega)]
theorem pe_out {l : List Nd} {op i : Int} {j : Nat} (hj : l.length ≤ j) (h : 0 < op) : pe (l.drop j) op i = -1 := by
  rw [List.drop_of_length_le hj, pe, if_neg (by omega)]

inductive BK where
  | and | or | imp
inductive UK where
  | box | dia
/-- formulas as trees -/
inductive Fm where
  | var (s : Nat)
  | fls
  | bin (k : BK) (a b : Fm)
  | un (k : UK) (a : Fm)
def BK.i : BK → Int | .and => 2 | .or => 3 | .imp => 4
def UK.i : UK → Int | .box => 5 | .dia => 6
theorem BK.parts (k : BK) : parts k.i = 2 := by cases k <;> rfl
theorem UK.parts (k : UK) : Go.Proofs.Ytbejakkcdbhmaaa.parts k.i = 1 := by cases k <;> rfl
/-- the nodes of a formula -/
def enc : Fm → List Nd
  | .var s => [(0, (s : Int))]
  | .fls => [(1, 0)]
  | .bin k a b => (k.i, 0) :: (enc a ++ enc b)
  | .un k a => (k.i, 0) :: enc a
/-- its variables are among the six -/
def Fm.ok : Fm → Bool
  | .var s => decide (s ≤ 5)
  | .fls => true
  | .bin _ a b => a.ok && b.ok
  | .un _ a => a.ok
theorem enc_pos (f : Fm) : 0 < (enc f).length := by cases f <;> simp [enc]
theorem enc_ne (f : Fm) : enc f ≠ [] := by cases f <;> simp [enc]
theorem enc_nodes (f : Fm) (h : f.ok = true) : ∀ n ∈ enc f, isNd n = true := by
  induction f with
  | var s => intro n hn; simp [enc] at hn; subst hn; simp [Fm.ok] at h; simp [isNd, inR]; omega
  | fls => intro n hn; simp [enc] at hn; subst hn; decide
  | bin k a b iha ihb =>
    simp [Fm.ok] at h
    intro n hn
    simp [enc] at hn
    rcases hn with rfl | hn | hn
    · cases k <;> decide
    · exact iha h.1 n hn
    · exact ihb h.2 n hn
  | un k a ih =>
    simp [Fm.ok] at h
    intro n hn
    simp [enc] at hn
    rcases hn with rfl | hn
    · cases k <;> decide
    · exact ih h n hn
/-- the end of a formula's nodes -/
theorem pe_enc (f : Fm) (rest : List Nd) (op i : Int) (h : 0 ≤ op) : pe (enc f ++ rest) (op + 1) i = pe rest op (i + (enc f).length) := by
  induction f generalizing rest op i with
  | var s => simp [enc, pe, parts, show ¬ op + 1 ≤ 0 from by omega, show op + 1 + -1 = op from by omega]
  | fls => simp [enc, pe, parts, show ¬ op + 1 ≤ 0 from by omega, show op + 1 + -1 = op from by omega]
  | bin k a b iha ihb =>
    simp only [enc, List.cons_append, pe, if_neg (show ¬ op + 1 ≤ 0 from by omega), BK.parts, List.append_assoc, List.length_cons, List.length_append]
    rw [show op + 1 + (2 - 1) = (op + 1) + 1 from by omega, iha _ _ _ (by omega), ihb _ _ _ h]
    congr 1
    omega
  | un k a ih =>
    simp only [enc, List.cons_append, pe, if_neg (show ¬ op + 1 ≤ 0 from by omega), UK.parts, List.length_cons]
    rw [show op + 1 + (1 - 1) = op + 1 from by omega, ih _ _ _ h]
    congr 1
    omega
theorem pe_enc1 (f : Fm) (rest : List Nd) (i : Int) : pe (enc f ++ rest) 1 i = i + (enc f).length := by
  have := pe_enc f rest 0 i (by omega)
  rw [show (0 : Int) + 1 = 1 from rfl] at this
  rw [this, pe_done _ _ (by omega)]
/-- a list whose parts end is made of formulas -/
theorem pe_parse (xs : List Nd) (h : ∀ n ∈ xs, isNd n = true) (op : Nat) (i r : Int) (hr : pe xs op i = r) (h0 : 0 ≤ r) (hi : 0 ≤ i) :
    ∃ (fs : List Fm) (rest : List Nd), fs.length = op ∧ xs = fs.flatMap enc ++ rest ∧ r = i + (fs.flatMap enc).length ∧ ∀ f ∈ fs, f.ok = true := by
  induction xs generalizing op i with
  | nil =>
    simp only [pe] at hr
    by_cases ho : (op : Int) ≤ 0
    · rw [if_pos ho] at hr
      exact ⟨[], [], by simp; omega, by simp, by simp [hr], by simp⟩
    · rw [if_neg ho] at hr
      omega
  | cons n t ih =>
    simp only [pe] at hr
    by_cases ho : (op : Int) ≤ 0
    · rw [if_pos ho] at hr
      exact ⟨[], n :: t, by simp; omega, by simp, by simp [hr], by simp⟩
    · rw [if_neg ho] at hr
      have hp := parts_range n.1
      obtain ⟨m, hm⟩ : ∃ m : Nat, (op : Int) + (parts n.1 - 1) = m := ⟨(op + (parts n.1 - 1)).toNat, by omega⟩
      rw [hm] at hr
      obtain ⟨fs, rest, h1, h2, h3, h4⟩ := ih (fun x hx => h x (List.mem_cons_of_mem _ hx)) m (i + 1) hr (by omega)
      have hn := h n (List.mem_cons_self)
      by_cases hk2 : n.1 = 2 ∨ n.1 = 3 ∨ n.1 = 4
      · have hp2 : parts n.1 = 2 := by unfold parts; rw [if_pos hk2]
        match fs, h1, h2, h3, h4 with
        | a :: b :: fs, h1, h2, h3, h4 =>
          obtain ⟨k, hk⟩ : ∃ k : BK, k.i = n.1 := by
            rcases hk2 with e | e | e
            · exact ⟨.and, e.symm⟩
            · exact ⟨.or, e.symm⟩
            · exact ⟨.imp, e.symm⟩
          have hs : n = (k.i, 0) := by
            have : n.1 ≠ 0 := by omega
            simp [isNd, this] at hn
            exact Prod.ext hk.symm hn.2
          refine ⟨.bin k a b :: fs, rest, by simp at h1 ⊢; omega, ?_, ?_, ?_⟩
          · rw [h2, hs]; simp [enc]
          · rw [h3]; simp [enc]; omega
          · intro f hf
            rcases List.mem_cons.1 hf with rfl | hf
            · simp [Fm.ok, h4 a (by simp), h4 b (by simp)]
            · exact h4 f (by simp [hf])
        | [a], h1, _, _, _ => simp at h1; omega
        | [], h1, _, _, _ => simp at h1; omega
      · by_cases hk1 : n.1 = 5 ∨ n.1 = 6
        · have hp1 : parts n.1 = 1 := by unfold parts; rw [if_neg hk2, if_pos hk1]
          match fs, h1, h2, h3, h4 with
          | a :: fs, h1, h2, h3, h4 =>
            obtain ⟨k, hk⟩ : ∃ k : UK, k.i = n.1 := by
              rcases hk1 with e | e
              · exact ⟨.box, e.symm⟩
              · exact ⟨.dia, e.symm⟩
            have hs : n = (k.i, 0) := by
              have : n.1 ≠ 0 := by omega
              simp [isNd, this] at hn
              exact Prod.ext hk.symm hn.2
            refine ⟨.un k a :: fs, rest, by simp at h1 ⊢; omega, ?_, ?_, ?_⟩
            · rw [h2, hs]; simp [enc]
            · rw [h3]; simp [enc]; omega
            · intro f hf
              rcases List.mem_cons.1 hf with rfl | hf
              · simp [Fm.ok, h4 a (by simp)]
              · exact h4 f (by simp [hf])
          | [], h1, _, _, _ => simp at h1; omega
        · have hp0 : parts n.1 = 0 := by unfold parts; rw [if_neg hk2, if_neg hk1]
          by_cases hz : n.1 = 0
          · simp [isNd, hz, inR] at hn
            have hs : n = (0, ((n.2.toNat : Nat) : Int)) := Prod.ext hz (by simp; omega)
            refine ⟨.var n.2.toNat :: fs, rest, by simp at h1 ⊢; omega, ?_, ?_, ?_⟩
            · rw [h2]; simp only [List.flatMap_cons, enc, List.cons_append, List.nil_append, ← hs]
            · rw [h3]; simp [enc]; omega
            · intro f hf
              rcases List.mem_cons.1 hf with rfl | hf
              · simp [Fm.ok]; omega
              · exact h4 f hf
          · simp [isNd, hz, inR] at hn
            have hs : n = (1, 0) := Prod.ext (by simp; omega) hn.2
            refine ⟨.fls :: fs, rest, by simp at h1 ⊢; omega, ?_, ?_, ?_⟩
            · rw [h2, hs]; simp [enc]
            · rw [h3]; simp [enc]; omega
            · intro f hf
              rcases List.mem_cons.1 hf with rfl | hf
              · rfl
              · exact h4 f hf
/-- is it a formula, whatever its length? -/
def isT (xs : List Nd) : Bool := xs.all isNd && decide (pe xs 1 0 = xs.length) && decide (0 < xs.length)
/-- is it a formula of at most forty nodes? -/
def isF (xs : List Nd) : Bool := decide (xs.length ≤ 40) && isT xs
theorem isT_enc (f : Fm) (h : f.ok = true) : isT (enc f) = true := by
  have h1 := pe_enc1 f [] 0
  rw [List.append_nil] at h1
  have h2 := enc_pos f
  have h3 : (enc f).all isNd = true := List.all_eq_true.2 (enc_nodes f h)
  simp only [isT, h3, h1]
  simp [h2]
theorem isT_iff (xs : List Nd) : isT xs = true ↔ ∃ f : Fm, f.ok = true ∧ xs = enc f := by
  constructor
  · intro h
    simp [isT] at h
    obtain ⟨⟨h1, h2⟩, h3⟩ := h
    obtain ⟨fs, rest, e1, e2, e3, e4⟩ := pe_parse xs (fun n hn => h1 n.1 n.2 hn) 1 0 xs.length h2 (by omega) (by omega)
    match fs, e1 with
    | [f], _ =>
      refine ⟨f, e4 f (by simp), ?_⟩
      have hr : rest = [] := by
        apply List.eq_nil_of_length_eq_zero
        have := congrArg List.length e2
        simp at this e3
        omega
      rw [e2, hr]
      simp
  · rintro ⟨f, hf, rfl⟩
    exact isT_enc f hf
theorem isF_iff (xs : List Nd) : isF xs = true ↔ ∃ f : Fm, f.ok = true ∧ xs = enc f ∧ (enc f).length ≤ 40 := by
  simp only [isF, Bool.and_eq_true, isT_iff, decide_eq_true_eq]
  constructor
  · rintro ⟨h, f, hf, rfl⟩
    exact ⟨f, hf, rfl, h⟩
  · rintro ⟨f, hf, rfl, h⟩
    exact ⟨h, f, hf, rfl⟩
end Go.Proofs.Ytbejakkcdbhmaaa

/- Contracts of chapter 6: the stack of truthSet, of the program. -/
import Derived.Test.YtkdldfomdbgcaaaGreatFA
namespace Go.Proofs.YtkdldfomdbgcaaaGreat
open Go.RowKit
set_option linter.unusedVariables false
set_option linter.unusedSimpArgs false
theorem li_append (xs ys : List Nat) : li (xs ++ ys) = li xs ++ li ys := by simp [li]
/-- the formulas whose nodes stand from an index on -/
def stepD : List Fm → List Fm
  | [] => []
  | g :: rest => kids g ++ rest
def dc (f : Fm) : Nat → List Fm
  | 0 => [f]
  | j + 1 => stepD (dc f j)
theorem enc_step (g : Fm) (rest : List Fm) : ∃ x : Nd, enc g ++ rest.flatMap enc = x :: (kids g ++ rest).flatMap enc ∧ (match g with | .var s => x = (0, (s : Int)) | .fls => x = (1, 0) | .bin k _ _ => x = (k.i, 0) | .un k _ => x = (k.i, 0)) := by
  cases g with
  | var s => exact ⟨_, by simp [enc, kids], rfl⟩
  | fls => exact ⟨_, by simp [enc, kids], rfl⟩
  | bin k a b => exact ⟨_, by simp [enc, kids], rfl⟩
  | un k a => exact ⟨_, by simp [enc, kids], rfl⟩
theorem dc_drop (f : Fm) (j : Nat) (h : j ≤ (enc f).length) : (enc f).drop j = (dc f j).flatMap enc := by
  induction j with
  | zero => simp [dc]
  | succ j ih =>
    have h1 := ih (by omega)
    have hlt : j < (enc f).length := by omega
    rw [List.drop_eq_getElem_cons hlt] at h1
    cases hd : dc f j with
    | nil => rw [hd] at h1; cases h1
    | cons g rest =>
      rw [hd, List.flatMap_cons] at h1
      obtain ⟨x, hx, _⟩ := enc_step g rest
      rw [hx] at h1
      show _ = (stepD (dc f j)).flatMap enc
      rw [hd]
      exact (List.cons.inj h1).2
theorem flatMap_enc_length (fs : List Fm) : fs.length ≤ (fs.flatMap enc).length := by
  induction fs with
  | nil => simp
  | cons g t ih => have := enc_pos g; rw [List.flatMap_cons, List.length_append, List.length_cons]; omega
theorem dc_length (f : Fm) (j : Nat) (h : j ≤ (enc f).length) : (dc f j).length ≤ (enc f).length := by
  have h1 := flatMap_enc_length (dc f j)
  rw [← dc_drop f j h, List.length_drop] at h1
  omega
/-- the node at an index, and the formulas from it on -/
theorem dc_at (f : Fm) (j : Nat) (h : j < (enc f).length) : ∃ (g : Fm) (rest : List Fm), dc f j = g :: rest ∧ dc f (j + 1) = kids g ++ rest ∧ (match g with | .var s => (enc f)[j] = (0, (s : Int)) | .fls => (enc f)[j] = (1, 0) | .bin k _ _ => (enc f)[j] = (k.i, 0) | .un k _ => (enc f)[j] = (k.i, 0)) := by
  have h1 := dc_drop f j (by omega)
  rw [List.drop_eq_getElem_cons h] at h1
  cases hd : dc f j with
  | nil => rw [hd] at h1; cases h1
  | cons g rest =>
    rw [hd, List.flatMap_cons] at h1
    obtain ⟨x, hx, hm⟩ := enc_step g rest
    rw [hx] at h1
    have hxe := (List.cons.inj h1).1
    refine ⟨g, rest, rfl, by show stepD (dc f j) = _; rw [hd]; rfl, ?_⟩
    rw [hxe]
    exact hm
/-- what stands on the stack when the nodes from an index on are done -/
def stk (ns us : List Nat) (fs : List Fm) : List Nat := (fs.map (tv ns us)).reverse
theorem stk_cons (ns us : List Nat) (g : Fm) (fs : List Fm) : stk ns us (g :: fs) = stk ns us fs ++ [tv ns us g] := by simp [stk]
theorem stk_length (ns us : List Nat) (fs : List Fm) : (stk ns us fs).length = fs.length := by simp [stk]
theorem Ow.pop {α : Type} {K : Cod α} {e : TypeId} {B : Nat} {w : World} {g c : Nat} {xs : List α} {x : α} {n : Nat} (h : Ow K e B w (.slice (some ⟨g, 0, none⟩) n c) (xs ++ [x])) : Ow K e B w (.slice (some ⟨g, 0, none⟩) xs.length c) xs := by
  obtain ⟨⟨A, c', hv, hc, hm⟩, h1, h2⟩ := h
  injection hv with hA hn hc'
  subst hA; subst hc'; subst hn
  rw [List.length_append, List.length_singleton] at hc h1 h2
  refine ⟨⟨_, c, rfl, by omega, hm⟩, flat_length xs, ?_⟩
  rcases h2 with ⟨h0, _⟩ | ⟨g', cap, cur, hv, hb, hg, hn, hcm, hsz, ht⟩
  · cases h0
  · injection hv with hA _ hcc
    injection hA with hA
    injection hA with hA _ _
    subst hA; subst hcc
    refine .inr ⟨g, c, cur, rfl, hb, hg, by omega, hcm, hsz, ?_⟩
    have h3 := congrArg (List.take (xs.length * K.size)) ht
    rw [List.take_take, flat_append, List.take_left' (flat_length xs)] at h3
    rw [Nat.min_eq_left (by rw [Nat.add_mul]; omega)] at h3
    exact h3
/-- the state of truthSet: the frame's block, the stack's cell, the stack -/
structure StT (w0 w : World) (S : Nat) (fr : Array Value) (zs : List Nat) : Prop where
  lt : w0.heap.size < S
  stack : ∃ sv, Blk w S 22 #[sv] ∧ Ow cI 2 (S + 1) w sv (li zs)
  frame : Blk w w0.heap.size 68 fr
  below : Below w0.heap.size w0 w
end Go.Proofs.YtkdldfomdbgcaaaGreat

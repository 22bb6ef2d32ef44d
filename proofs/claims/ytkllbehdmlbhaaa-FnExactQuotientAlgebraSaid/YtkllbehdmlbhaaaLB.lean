/- Joined of several texts: LU, LN, LUs, LG, LM. -/
import Derived.Test.YtkllbehdmlbhaaaMem
import Derived.Test.YtkllbehdmlbhaaaB1
import Derived.Test.YtkllbehdmlbhaaaLA
import Derived.Deep.CutRange
import Derived.Deep.DeepCutAuto
namespace Go.Proofs.Ytkllbehdmlbhaaa
open Go.RowKit
set_option linter.unusedVariables false
set_option linter.unusedSimpArgs false
/- The laws' own functions in one form, for the laws' walks: what is owned lies in a range of blocks; a mark changes that range alone. -/
/-- w' is w but for the blocks from B to H, and new ones -/
structure Keep (B H : Nat) (w w' : World) : Prop where
  os : w'.os = w.os
  tape : w'.tape = w.tape
  output : w'.output = w.output
  size : w.heap.size ≤ w'.heap.size
  block : ∀ k, k < w.heap.size → (k < B ∨ H ≤ k) → w'.heap[k]? = w.heap[k]?
theorem Keep.of_grown {B H : Nat} {w w' : World} {row : Option Nat} (h : w.grownBy w' row) (hr : ∀ k, row = some k → B ≤ k ∧ k < H) : Keep B H w w' :=
  ⟨h.os, h.tape, h.output, h.size, fun k hk hor => h.block k hk (fun e => by have := hr k e.symm; omega)⟩
theorem Keep.of_below {B H : Nat} {w w' : World} (h : Below w.heap.size w w') : Keep B H w w' := ⟨h.os, h.tape, h.output, h.size, fun k hk _ => h.block k hk⟩
theorem Keep.trans {B H : Nat} {a b c : World} (h : Keep B H a b) (k : Keep B H b c) : Keep B H a c :=
  ⟨k.os.trans h.os, k.tape.trans h.tape, k.output.trans h.output, Nat.le_trans h.size k.size, fun i hi ho => (k.block i (Nat.lt_of_lt_of_le hi h.size) ho).trans (h.block i hi ho)⟩
theorem Keep.mono {B H B' H' : Nat} {a b : World} (h : Keep B H a b) (h1 : B' ≤ B) (h2 : H ≤ H') : Keep B' H' a b :=
  ⟨h.os, h.tape, h.output, h.size, fun i hi ho => h.block i hi (by omega)⟩
theorem below_keep {b0 B H : Nat} {W w w' : World} (h : Below b0 W w) (k : Keep B H w w') (h1 : b0 ≤ B) (h2 : b0 ≤ w.heap.size) : Below b0 W w' :=
  ⟨k.os.trans h.os, k.tape.trans h.tape, k.output.trans h.output, Nat.le_trans h.size k.size, fun i hi => (k.block i (by omega) (by omega)).trans (h.block i hi)⟩
theorem Bk.keep {w w' : World} {g B H : Nat} {cs : Array Value} (h : Bk w g cs) (k : Keep B H w w') (hg : g < B ∨ H ≤ g) : Bk w' g cs :=
  ⟨Nat.lt_of_lt_of_le h.1 k.size, fun i => (World.cell?_of_block (k.block g h.1 hg)).trans (h.2 i)⟩

/-- a slice of the call's own, its block from B on and below H -/
def Ob {α : Type} (K : Cod α) (e : TypeId) (B H : Nat) (w : World) (v : Value) (xs : List α) : Prop := Ow K e B w v xs ∧ ∀ k, v.ownBlock = some k → k < H
section
variable {α : Type} {K : Cod α} {e : TypeId} {B H : Nat} {w w' : World} {v : Value} {xs : List α}
theorem Ow.ob (h : Ow K e B w v xs) : Ob K e B w.heap.size w v xs := ⟨h, fun k hk => (h.block k hk).2⟩
theorem Ob.sl (h : Ob K e B H w v xs) : Sl K w v xs := h.1.sl
theorem Ob.opn (h : Ob K e B H w v xs) : ∃ A c, v = .slice A xs.length c := h.1.opn
theorem Ob.below (h : Ob K e B H w v xs) (hb : Below w.heap.size w w') : Ob K e B H w' v xs := ⟨h.1.below hb, h.2⟩
theorem Ob.keep {B' H' : Nat} (h : Ob K e B H w v xs) (k : Keep B' H' w w') (hd : H ≤ B' ∨ H' ≤ B) : Ob K e B H w' v xs := by
  refine ⟨⟨h.1.1, h.1.2.1, ?_⟩, h.2⟩
  rcases h.1.2.2 with h2 | ⟨g, cap, cur, hv, hB, hg, r⟩
  · exact .inl h2
  · refine .inr ⟨g, cap, cur, hv, hB, ?_, r⟩
    have hH := h.2 g (by rw [hv]; rfl)
    exact (k.block g (Array.getElem?_eq_some_iff.1 hg).1 (by omega)).trans hg
theorem Ob.inv {ys : List α} (h : Ob K e B H w v xs) (h' : Ow K e B w' v ys) : Ob K e B H w' v ys := ⟨h', h.2⟩
end
theorem below_alloc' (w : World) (o : Obj) : Below w.heap.size w (w.alloc o) := (Below.refl _ _).alloc (Nat.le_refl _) o
theorem size_alloc' (w : World) (o : Obj) : (w.alloc o).heap.size = w.heap.size + 1 := by simp
/- Contracts of the laws' own functions on []Node: size, copy, comparison of alike ones, marks. -/
theorem set_numN (xs : List Nd) (k : Int) (j : Nat) (h : j < xs.length) (N : List Nd) (hN : N.length = j) (a b : Int) : (N ++ xs.drop j).set j (a, b) = (N ++ [(a, b)]) ++ xs.drop (j + 1) := by
  rw [List.set_append, if_neg (by omega), hN, Nat.sub_self, List.drop_eq_getElem_cons h, List.set_cons_zero, List.append_assoc]
  rfl
/-- the marks of nodes: k, k + 1; k + 2, k + 3 .. -/
def numN : Nat → Int → List Nd
  | 0, _ => []
  | n + 1, k => (k, k + 1) :: numN n (k + 2)
theorem numN_length (n : Nat) (k : Int) : (numN n k).length = n := by
  induction n generalizing k with
  | zero => rfl
  | succ n ih => simp [numN, ih]
theorem numN_snoc (n : Nat) (k : Int) : numN (n + 1) k = numN n k ++ [(k + 2 * n, k + 2 * n + 1)] := by
  induction n generalizing k with
  | zero => simp [numN]
  | succ n ih =>
    rw [numN, ih (k + 2), numN, List.cons_append]
    simp
    omega
theorem numN_get (n : Nat) (k : Int) (j : Nat) (h : j < (numN n k).length) : (numN n k)[j] = (k + 2 * j, k + 2 * j + 1) := by
  induction n generalizing k j with
  | zero => simp [numN] at h
  | succ n ih =>
    cases j with
    | zero => simp [numN]
    | succ j =>
      simp only [numN, List.getElem_cons_succ]
      rw [ih]
      simp
      omega
/- The laws' own functions on slices in the one form. -/
theorem u_sz_SI (v : Value) (xs : List Int) (l : Int) (w : World) (h : Sl cI w v xs) (hl : -1 ≤ l ∧ l ≤ 1048576) :
    Calls Try.prog 30 #[v, .int .i64 l] w fun e w' => e = .returned (.int .i64 (szL l xs.length)) ∧ Below w.heap.size w w' :=
  (sz_int64S v xs l w h hl).mono fun e w' ⟨he, hw⟩ => ⟨he, hw ▸ Below.refl _ _⟩
theorem u_to_SI (v : Value) (xs : List Int) (w : World) (h : Sl cI w v xs) (hl : xs.length ≤ 1048576) :
    Calls Try.prog 35 #[v] w fun e w' => ∃ u, e = .returned u ∧ Ob cI 2 w.heap.size w'.heap.size w' u xs ∧ Below w.heap.size w w' :=
  (to_int64S v xs w h hl).mono fun e w' ⟨u, he, ho, hb⟩ => ⟨u, he, ho.ob, hb⟩
theorem u_eq_SI (v u : Value) (xs : List Int) (w : World) (hx : Sl cI w v xs) (hy : Sl cI w u xs) (hn : xs.length ≤ 268435456) :
    Calls Try.prog 9 #[v, u] w fun e w' => e = .returned (.bool true) ∧ Below w.heap.size w w' :=
  (eq_int64S v u xs xs w hx hy (by omega)).mono fun e w' ⟨he, q, hw⟩ => ⟨by rw [he]; simp, hw ▸ below_drewN (Below.refl _ _) q⟩
theorem u_mark_SI (v : Value) (xs : List Int) (k : Int) (B H : Nat) (w : World) (h : Ob cI 2 B H w v xs) (hl : xs.length ≤ 268435456) (hk : 0 ≤ k ∧ k ≤ 268435456) :
    Calls Try.prog 12 #[v, .int .i64 k] w fun e w' => e = .returned (.int .i64 (k + xs.length)) ∧ Ob cI 2 B H w' v (numL xs.length k) ∧ Keep B H w w' :=
  (mark_int64S v xs k B w h.1 (by omega) (by omega)).mono fun e w' ⟨he, ho, hg⟩ => ⟨he, h.inv ho, Keep.of_grown hg fun g hk => ⟨(h.1.block g hk).1, h.2 g hk⟩⟩
theorem u_held_SI (v : Value) (m : Nat) (k : Int) (w : World) (h : Sl cI w v (numL m k)) (hl : m ≤ 268435456) (hk : 0 ≤ k ∧ k ≤ 268435456) :
    Calls Try.prog 13 #[v, .int .i64 k] w fun e w' => e = .returned (.int .i64 (k + m)) ∧ Below w.heap.size w w' :=
  (held_int64S v _ k w h (by rw [numL_length]; omega) (by omega)).mono fun e w' ⟨he, hw⟩ => ⟨by rw [he, heldL_numL], hw ▸ Below.refl _ _⟩
/- The laws' own functions on Frames in the one form. -/
/- The laws' own functions on Models in the one form: size, equality. -/
end Go.Proofs.Ytkllbehdmlbhaaa

/- Joined of several texts: 32c, 32x, 32y, 32z, 32z2, 32z3. -/
import Derived.Test.YtaigiopoogbbbaaGreatY02
import Derived.Test.YtaigiopoogbbbaaGreatY07
namespace Go.Proofs.YtaigiopoogbbbaaGreat
open Go.RowKit
set_option linter.unusedVariables false
set_option linter.unusedSimpArgs false
/- Contracts of ChainFrame, of the program and of the reference. -/
/- Contracts of the test of a Trace, of the program and of the reference. -/
/-- rank i of a Trace stands well -/
def goodT (xs : List Int) (i : Nat) : Bool := inR (xs.getD i 0) 0 60 && (decide (i = 0) || decide (xs.getD (i - 1) 0 < xs.getD i 0))
def okT (xs : List Int) : Bool := (List.range xs.length).all (goodT xs)
theorem okT_true {xs : List Int} (h : ∀ i < xs.length, goodT xs i = true) : okT xs = true := by
  unfold okT
  rw [List.all_eq_true]
  exact fun i hi => h i (List.mem_range.1 hi)
theorem okT_false {xs : List Int} {i : Nat} (hi : i < xs.length) (h : goodT xs i = false) : okT xs = false := by
  unfold okT
  rw [List.all_eq_false]
  exact ⟨i, List.mem_range.2 hi, by rw [h]; decide⟩
theorem goodT_zero {xs : List Int} (h : 0 < xs.length) : goodT xs 0 = inR xs[0] 0 60 := by
  simp [goodT, List.getD_eq_getElem?_getD, h]
theorem goodT_succ {xs : List Int} {k : Nat} (h : k + 1 < xs.length) : goodT xs (k + 1) = (inR xs[k + 1] 0 60 && decide (xs[k] < xs[k + 1])) := by
  simp [goodT, List.getD_eq_getElem?_getD, h, show k < xs.length from by omega]
theorem Sl.atI2 {w : World} {A : Option Addr} {n c : Nat} {xs : List Int} (h : Sl cI w (.slice A n c) xs) {k : Nat} (hk : k + 1 < xs.length) :
    ∃ b o, A = some ⟨b, o, none⟩ ∧ b < w.heap.size ∧ w.cell? ⟨b, o + k, none⟩ = some (.int .i64 xs[k]) ∧ w.cell? ⟨b, o + (k + 1), none⟩ = some (.int .i64 xs[k + 1]) := by
  obtain ⟨b, o, rfl, hb, h0⟩ := h.atI (k := k) (by omega)
  obtain ⟨b', o', e, hb', h1⟩ := h.atI (k := k + 1) hk
  injection e with e
  injection e with e1 e2
  subst e1 e2
  exact ⟨b, o, rfl, hb, h0, h1⟩
/-- the test of a range within a region that draws, behind draws -/
theorem q_l01In {x l h : Int} {b : Bool} (hq : inR x l h = b) (W : World) (q n : Nat) :
    Calls Tryz.prog 37 #[.int .i64 x, .int .i64 l, .int .i64 h] (W.drewN (q + n)) fun e w'' => e = .returned (.bool b) ∧ ∃ m, w'' = W.drewN (q + m) :=
  (spec_l01In x l h _).mono fun e w' hh => ⟨by rw [hh.1, hq], n, hh.2.symm⟩
/- Contracts of ComplementTrace, of the program and of the reference. -/
theorem far2 {w : World} {p q a b : Addr} {x y u v : Value} (h0 : w.cell? p = some x) (h1 : w.cell? q = some y) (hp : a.block ≠ p.block) (hq : a.block ≠ q.block) (hab : b.block = a.block := by rfl) :
    ((w.setCell a u).setCell b v).cell? p = some x ∧ ((w.setCell a u).setCell b v).cell? q = some y := by
  rw [World.cell?_setCell_far _ _ _ _ (hab ▸ hp), World.cell?_setCell_far _ _ _ _ hp, World.cell?_setCell_far _ _ _ _ (hab ▸ hq), World.cell?_setCell_far _ _ _ _ hq]
  exact ⟨h0, h1⟩
/- Contracts of BoxTrace and what it calls, of the program and of the reference. -/
def shL (n : Nat) : List Int := (List.range n).map fun (i : Nat) => (i : Int)
theorem shL_length (n : Nat) : (shL n).length = n := by simp [shL]
theorem shL_snoc (n : Nat) : shL (n + 1) = shL n ++ [(n : Int)] := by simp [shL, List.range_succ]
/-- the first rank that does not belong to a Trace, as the reference seeks it: to 62 -/
def fsT (b : Bool) (xs : List Int) : Nat → Nat → Nat
  | 0, n => n
  | k + 1, n => if (decide ((n : Int) ∈ xs) == b) = true then fsT b xs k (n + 1) else n
theorem fsT_le (b : Bool) (xs : List Int) (k : Nat) : ∀ n, fsT b xs k n ≤ n + k := by
  induction k with
  | zero => intro n; simp [fsT]
  | succ k ih => intro n; rw [fsT]; split; have := ih (n + 1); omega; omega
/- Contracts of BoxTrace of the reference. Written by gen32z2.py. -/
/- The plain law of BoxTrace: the program's first false rank is the reference's. -/
theorem okT_at {xs : List Int} (h : okT xs = true) {i : Nat} (hi : i < xs.length) : goodT xs i = true := by
  unfold okT at h
  rw [List.all_eq_true] at h
  exact h i (List.mem_range.2 hi)
theorem okT_mem {xs : List Int} (h : okT xs = true) {x : Int} (hx : x ∈ xs) : 0 ≤ x ∧ x ≤ 60 := by
  obtain ⟨i, hi, rfl⟩ := List.getElem_of_mem hx
  have := okT_at h hi
  simp only [goodT, inR, Bool.and_eq_true, decide_eq_true_eq, List.getD_eq_getElem?_getD, List.getElem?_eq_getElem hi, Option.getD_some] at this
  omega
theorem okT_asc {xs : List Int} (h : okT xs = true) : xs.Pairwise (· < ·) := by
  rw [List.pairwise_iff_getElem]
  intro i j hi hj hij
  induction j with
  | zero => omega
  | succ k ih =>
    have h1 := okT_at h hj
    rw [goodT_succ hj, Bool.and_eq_true, decide_eq_true_eq] at h1
    by_cases he : i = k
    · subst he; exact h1.2
    · have := ih (by omega) (by omega)
      omega
theorem ffL_ge (L : List Int) : ∀ i : Int, i ≤ ffL L i := by
  induction L with
  | nil => intro i; exact Int.le_refl _
  | cons x t ih =>
    intro i
    rw [ffL]
    split
    · have := ih (i + 1); omega
    · exact Int.le_refl _
theorem fsT_true (F : List Int) (k : Nat) : ∀ (n : Nat) (L : List Int), L.Pairwise (· < ·) → (∀ x ∈ L, (n : Int) ≤ x) → (∀ m : Int, (n : Int) ≤ m → (m ∈ F ↔ m ∈ L)) → (fsT true F k n : Int) = min ((n + k : Nat) : Int) (ffL L n) := by
  induction k with
  | zero => intro n L _ _ _; have := ffL_ge L n; simp only [fsT]; omega
  | succ k ih =>
    intro n L hp hge hm
    have hge' := ffL_ge L n
    cases L with
    | nil =>
      have hn : ¬ (n : Int) ∈ F := by rw [hm n (Int.le_refl _)]; simp
      rw [fsT, if_neg (by simp [hn])]
      simp only [ffL]; omega
    | cons x t =>
      have hx := hge x List.mem_cons_self
      rw [List.pairwise_cons] at hp
      by_cases he : x = (n : Int)
      · have hn : (n : Int) ∈ F := by rw [hm n (Int.le_refl _), he]; exact List.mem_cons_self
        rw [fsT, if_pos (by simp [hn]), ih (n + 1) t hp.2 (fun y hy => by have := hp.1 y hy; omega) (fun m hmn => by
          rw [hm m (by omega), List.mem_cons]
          constructor
          · rintro (h | h)
            · omega
            · exact h
          · exact fun h => .inr h), ffL, if_pos he]
        rw [show ((n + 1 : Nat) : Int) = (n : Int) + 1 from by omega]
        omega
      · have hn : ¬ (n : Int) ∈ F := by
          rw [hm n (Int.le_refl _), List.mem_cons]
          rintro (h | h)
          · exact he h.symm
          · have := hp.1 _ h; omega
        rw [fsT, if_neg (by simp [hn]), ffL, if_neg he]
        omega
theorem fsT_false (F : List Int) (x : Int) (hx : x ∈ F) (hmin : ∀ y ∈ F, x ≤ y) (k : Nat) : ∀ n : Nat, (n : Int) ≤ x → (fsT false F k n : Int) = min ((n + k : Nat) : Int) x := by
  induction k with
  | zero => intro n hn; simp only [fsT]; omega
  | succ k ih =>
    intro n hn
    by_cases he : (n : Int) = x
    · rw [fsT, if_neg (by simp [he, hx])]; omega
    · have hnf : ¬ (n : Int) ∈ F := fun h => by have := hmin _ h; omega
      rw [fsT, if_pos (by simp [hnf]), ih (n + 1) (by omega)]
      omega
/-- the two ways to seek it agree, where the Trace is not of all ranks -/
theorem ff_fs {b : Bool} {xs : List Int} (h : okT xs = true) (hA : (!b && decide (xs.length = 0)) = false) :
    (fsT b xs 62 0 ≤ 60 → ffT b xs = fsT b xs 62 0) ∧ (60 < fsT b xs 62 0 → 60 < ffT b xs) := by
  cases b
  · cases xs with
    | nil => simp at hA
    | cons x t =>
      have hp := okT_asc h
      rw [List.pairwise_cons] at hp
      have h1 := okT_mem h (x := x) List.mem_cons_self
      have h2 := fsT_false (x :: t) x List.mem_cons_self (fun y hy => by
        rcases List.mem_cons.1 hy with e | e
        · omega
        · have := hp.1 y e; omega) 62 0 (by omega)
      have h3 : ffT false (x :: t) = x := rfl
      rw [h3]
      omega
  · have h2 := fsT_true xs 62 0 xs (okT_asc h) (fun x hx => by have := okT_mem h hx; omega) (fun m _ => Iff.rfl)
    have h3 : ffT true xs = ffL xs 0 := rfl
    rw [h3]
    rw [show ((0 : Nat) : Int) = 0 from rfl] at h2
    omega
end Go.Proofs.YtaigiopoogbbbaaGreat

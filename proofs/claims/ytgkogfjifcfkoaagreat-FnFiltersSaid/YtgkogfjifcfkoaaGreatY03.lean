/- Joined of several texts. -/
import Derived.Test.YtgkogfjifcfkoaaGreatY01
import Derived.Test.YtgkogfjifcfkoaaGreatY02
namespace Go.Proofs.YtgkogfjifcfkoaaGreat
/- Joined of several texts: 32c, 32x, 32y, 32z, 32z2, 32z3. -/
open Go.RowKit
set_option linter.unusedVariables false
set_option linter.unusedSimpArgs false
/- Contracts of ChainFrame, of the program and of the reference. -/
theorem impl_frameOf (v : Value) (xs : List Int) (w : World) (h : Sl cI w v xs) :
    Calls Tryz.prog 131 #[v] w fun e w' => e = .returned (.agg #[.int .i64 xs.length, v]) ∧ Below w.heap.size w w' := by
  obtain ⟨A, c, rfl⟩ := h.opn
  go_enter Tryz.func131, Tryz.ntmps131
  go_wp2_with fail
  refine (impl_size_int64 _ xs _ (h.alloc _)).mono ?_
  rintro e w1 ⟨rfl, rfl⟩
  go_wp2
  refine bodyPost_ret (v := .agg #[.int .i64 xs.length, .slice A xs.length c]) (by simp [results, Tryz.results131, go_sem]) rfl ⟨rfl, ?_⟩
  repeat (first | exact Below.refl _ _ | refine Below.alloc ?_ (by simp <;> omega) _ | refine below_drewN ?_ _)
theorem spec_l01Own (v : Value) (xs : List Int) (w : World) (h : Sl cI w v xs) (hl : xs.length ≤ 1073741824) :
    Calls Tryz.prog 71 #[v] w fun e w' => ∃ u, e = .returned u ∧ Ow cI 2 w.heap.size w' u xs ∧ Below w.heap.size w w' := by
  obtain ⟨A, c, rfl⟩ := h.opn
  go_enter Tryz.func71, Tryz.ntmps71
  go_wp2_with (at_builtin; refine stopHere ?_)
  refine goHere ?_
  refine ap_sl (K := cI) _ ty_int64 rfl _ _ rfl rfl rfl (B := w.heap.size) (xs := []) (news := xs) (Ow.lit [] rfl rfl (Nat.le_refl _)) (h.alloc _) (by simp <;> omega) (by simp) ?_
  intro v1 w1 ho hg hb hat
  have hb' : Below w.heap.size w w1 := ((Below.refl _ _).alloc (Nat.le_refl _) _).trans hb
  have O := Lib.hid ho; clear ho hg hb hat
  go_wp2
  go_ret
  exact ⟨_, rfl, O.out, hb'⟩
theorem slices_Clone_int64 (v : Value) (xs : List Int) (w : World) (h : Sl cI w v xs) (hl : xs.length ≤ 1073741824) :
    Calls Tryz.prog 47 #[v] w fun e w' => ∃ u, e = .returned u ∧ Ow cI 2 w.heap.size w' u xs ∧ Below w.heap.size w w' := by
  obtain ⟨A, c, rfl⟩ := h.opn
  by_cases hA : A = none
  · subst hA
    obtain rfl := h.none_nil
    have hq := fun W : World => Lib.run_eql_slice_nil (P := Tryz.prog) W 27 2 none 0 c 0 0 Tryz.underlying27
    go_enter Tryz.func47, Tryz.ntmps47
    go_wp2_with (at_builtin; refine stopHere ?_)
    go_ret
    exact ⟨_, rfl, Ow.nil _ _, Below.refl _ _⟩
  · obtain ⟨ad, rfl⟩ := Option.ne_none_iff_exists'.1 hA
    clear hA
    have hq := fun W : World => Lib.run_eql_slice_nil (P := Tryz.prog) W 27 2 (some ad) xs.length c 0 0 Tryz.underlying27
    go_enter Tryz.func47, Tryz.ntmps47
    go_wp2_with (at_builtin; refine stopHere ?_)
    refine goHere ?_
    refine ap_sl (K := cI) _ ty_int64 rfl _ _ rfl rfl rfl (B := w.heap.size) (xs := []) (news := xs) (Ow.lit [] rfl rfl (Nat.le_refl _)) (h.alloc _) (by simp <;> omega) (by simp) ?_
    intro v1 w1 ho hg hb hat
    have hb' : Below w.heap.size w w1 := ((Below.refl _ _).alloc (Nat.le_refl _) _).trans hb
    have O := Lib.hid ho; clear ho hg hb hat
    go_wp2
    go_ret
    exact ⟨_, rfl, O.out, hb'⟩
/- Contracts of the test of a Trace, of the program and of the reference. -/
/- Contracts of ComplementTrace, of the program and of the reference. -/
/- Contracts of BoxTrace and what it calls, of the program and of the reference. -/
/- Contracts of BoxTrace of the reference. Written by gen32z2.py. -/
/- The plain law of BoxTrace: the program's first false rank is the reference's. -/
/- Joined of several texts: 05c, 05d. -/
open Go.RowKit
set_option linter.unusedVariables false
set_option linter.unusedSimpArgs false
/- Contracts of chapters 1, 5 and 6: frames, models, boxes, truth, of the reference. -/
/- Contracts of chapter 6: models and truth, of the reference. Written by gen05d.py. -/
/-- a frame's arrows and a model's values lie in w -/
structure Mdl (w : World) (va vu : Value) (ns us : List Nat) : Prop where
  a : Sl cI w va (li ns)
  u : Sl cI w vu (li us)
theorem Mdl.below {w w' : World} {va vu : Value} {ns us : List Nat} (h : Mdl w va vu ns us) (hb : Below w.heap.size w w') : Mdl w' va vu ns us := ⟨h.a.below hb, h.u.below hb⟩
theorem full_cast {k : Nat} (h : k ≤ 62) : (2 : Int) ^ k - 1 = ((2 ^ k - 1 : Nat) : Int) := by rw [Int.ofNat_sub (Nat.pow_pos (by decide)), ← cast_two_pow]; rfl
theorem spec_l01Full' (k F : Nat) (hF : F = 2 ^ k - 1) (w : World) (h1 : k ≤ 62) :
    Calls Tryz.prog 86 #[.int .i64 (k : Int)] w fun e w' => e = .returned (.int .i64 (F : Nat)) ∧ w = w' :=
  (spec_l01Full k w (by omega) (by omega)).mono fun e w' ⟨he, hw⟩ => ⟨by rw [he, Int.toNat_natCast, full_cast h1, hF], hw⟩
/- Contracts of chapter 6: the stack of truthSet, of the program. -/
open Go.RowKit
set_option linter.unusedVariables false
set_option linter.unusedSimpArgs false
theorem li_append (xs ys : List Nat) : li (xs ++ ys) = li xs ++ li ys := by simp [li]
/-- the formulas whose nodes stand from an index on -/
def stepD : List Fm → List Fm
  | [] => []
  | g :: rest => kids g ++ rest
def dc (f : Fm) : Nat → List Fm
  | 0 => [f]
  | j + 1 => stepD (dc f j)
/-- the state of truthSet: the frame's block, the stack's cell, the stack -/
structure StT (w0 w : World) (S : Nat) (fr : Array Value) (zs : List Nat) : Prop where
  lt : w0.heap.size < S
  stack : ∃ sv, Blk w S 27 #[sv] ∧ Ow cI 2 (S + 1) w sv (li zs)
  frame : Blk w w0.heap.size 122 fr
  below : Below w0.heap.size w0 w
/- Joined of several texts: 33w, 33x, 33y, M05e. -/
open Go.RowKit
set_option linter.unusedVariables false
set_option linter.unusedSimpArgs false
/- Contracts of CountSolutions, of the program and of the reference. -/
theorem li_set (us : List Nat) (s m : Nat) : (li us).set s (m : Int) = li (us.set s m) := by
  unfold li
  rw [List.map_set]
theorem set_lt {us : List Nat} {k : Nat} (h : ∀ x ∈ us, x < 2 ^ k) (s m : Nat) (hm : m < 2 ^ k) : ∀ x ∈ us.set s m, x < 2 ^ k := by
  intro x hx
  rcases List.mem_or_eq_of_mem_set hx with h1 | h1
  · exact h x h1
  · rw [h1]; exact hm
/- Contracts of CountSolutions, of the program and of the reference. -/
/- Contracts of CountSolutions, of the reference. -/
/- Plain words of chapters 1 and 5: images, the transitive closure, transitive and acyclic frames. No program in sight. -/
/-- what the members of a mask below k see -/
def imgTo (ns : List Nat) (m : Nat) : Nat → Nat
  | 0 => 0
  | i + 1 => imgTo ns m i ||| if m.testBit i then ns.getD i 0 else 0
def img (ns : List Nat) (m : Nat) : Nat := imgTo ns m ns.length
theorem imgTo_bit (ns : List Nat) (m b k : Nat) : (imgTo ns m k).testBit b = true ↔ ∃ i, i < k ∧ m.testBit i = true ∧ (ns.getD i 0).testBit b = true := by
  induction k with
  | zero => simp [imgTo]
  | succ k ih =>
    rw [imgTo, Nat.testBit_or, Bool.or_eq_true, ih]
    constructor
    · rintro (⟨i, hi, h⟩ | h)
      · exact ⟨i, by omega, h⟩
      · by_cases hm : m.testBit k = true
        · rw [if_pos hm] at h; exact ⟨k, by omega, hm, h⟩
        · rw [if_neg hm, Nat.zero_testBit] at h; cases h
    · rintro ⟨i, hi, h1, h2⟩
      by_cases hk : i = k
      · subst hk; rw [if_pos h1]; exact .inr h2
      · exact .inl ⟨i, by omega, h1, h2⟩
theorem imgTo_lt {ns : List Nat} {k : Nat} (h : ∀ x ∈ ns, x < 2 ^ k) (m i : Nat) : imgTo ns m i < 2 ^ k := by
  induction i with
  | zero => exact Nat.pow_pos (by decide)
  | succ i ih =>
    rw [imgTo]
    refine Nat.or_lt_two_pow ih ?_
    split
    · exact getD_lt h i
    · exact Nat.pow_pos (by decide)
theorem andnot_zero (a b : Nat) : andnot a b = 0 ↔ ∀ i, a.testBit i = true → b.testBit i = true := by
  constructor
  · intro h i hi
    have := congrArg (fun n => n.testBit i) h
    simp only [andnot_testBit, Nat.zero_testBit, hi, Bool.true_and] at this
    simpa using this
  · intro h
    apply Nat.eq_of_testBit_eq
    intro i
    rw [andnot_testBit, Nat.zero_testBit]
    cases ha : a.testBit i
    · rfl
    · rw [h i ha]; rfl
/-- one step of the closure -/
def cst (o : List Nat) (k i : Nat) : List Nat := if (o.getD i 0).testBit k then o.set i (o.getD i 0 ||| o.getD k 0) else o
def cin (o : List Nat) (k : Nat) : Nat → List Nat
  | 0 => o
  | i + 1 => cst (cin o k i) k i
def clo (o : List Nat) : Nat → List Nat
  | 0 => o
  | k + 1 => cin (clo o k) k o.length
theorem cst_length (o : List Nat) (k i : Nat) : (cst o k i).length = o.length := by
  unfold cst; split
  · rw [List.length_set]
  · rfl
theorem cin_length (o : List Nat) (k i : Nat) : (cin o k i).length = o.length := by
  induction i with
  | zero => rfl
  | succ i ih => rw [cin, cst_length, ih]
theorem clo_length (o : List Nat) (k : Nat) : (clo o k).length = o.length := by
  induction k with
  | zero => rfl
  | succ k ih => rw [clo, cin_length, ih]
theorem cst_lt {o : List Nat} {n : Nat} (h : ∀ x ∈ o, x < 2 ^ n) (k i : Nat) : ∀ x ∈ cst o k i, x < 2 ^ n := by
  unfold cst; split
  · exact set_lt h _ _ (Nat.or_lt_two_pow (getD_lt h i) (getD_lt h k))
  · exact h
theorem cin_lt {o : List Nat} {n : Nat} (h : ∀ x ∈ o, x < 2 ^ n) (k i : Nat) : ∀ x ∈ cin o k i, x < 2 ^ n := by
  induction i with
  | zero => exact h
  | succ i ih => exact cst_lt ih _ _
theorem clo_lt {o : List Nat} {n : Nat} (h : ∀ x ∈ o, x < 2 ^ n) (k : Nat) : ∀ x ∈ clo o k, x < 2 ^ n := by
  induction k with
  | zero => exact h
  | succ k ih => exact cin_lt ih _ _
theorem getD_set (o : List Nat) (i j v : Nat) : (o.set i v).getD j 0 = if i = j ∧ i < o.length then v else o.getD j 0 := by
  rw [List.getD_eq_getElem?_getD, List.getD_eq_getElem?_getD, List.getElem?_set]
  by_cases h : i = j
  · subst h
    by_cases hi : i < o.length
    · simp [hi]
    · simp [hi]
  · simp [h]
/-- o is part of p -/
def lel (o p : List Nat) : Prop := o.length = p.length ∧ ∀ i b, (o.getD i 0).testBit b = true → (p.getD i 0).testBit b = true
theorem lel.refl (o : List Nat) : lel o o := ⟨rfl, fun _ _ h => h⟩
theorem lel.trans {o p q : List Nat} (h : lel o p) (h' : lel p q) : lel o q := ⟨h.1.trans h'.1, fun i b hb => h'.2 i b (h.2 i b hb)⟩
theorem lel.antisymm {o p : List Nat} (h : lel o p) (h' : lel p o) : o = p := by
  apply List.ext_getElem h.1
  intro i h1 h2
  have e1 : o.getD i 0 = o[i] := by rw [List.getD_eq_getElem?_getD, List.getElem?_eq_getElem h1]; rfl
  have e2 : p.getD i 0 = p[i] := by rw [List.getD_eq_getElem?_getD, List.getElem?_eq_getElem h2]; rfl
  rw [← e1, ← e2]
  apply Nat.eq_of_testBit_eq
  intro b
  rw [Bool.eq_iff_iff]
  exact ⟨h.2 i b, h'.2 i b⟩
theorem lel_cst (o : List Nat) (k i : Nat) : lel o (cst o k i) := by
  refine ⟨(cst_length o k i).symm, fun j b hb => ?_⟩
  unfold cst
  split
  · rw [getD_set]
    split
    · rename_i h; rw [Nat.testBit_or, h.1, hb]; rfl
    · exact hb
  · exact hb
theorem lel_cin (o : List Nat) (k i j : Nat) : lel (cin o k i) (cin o k (i + j)) := by
  induction j with
  | zero => exact lel.refl _
  | succ j ih => exact ih.trans (lel_cst _ _ _)
theorem lel_clo (o : List Nat) (k j : Nat) : lel (clo o k) (clo o (k + j)) := by
  induction j with
  | zero => exact lel.refl _
  | succ j ih => refine ih.trans ?_; have := lel_cin (clo o (k + j)) (k + j) 0 o.length; rw [Nat.zero_add] at this; exact this
def tra (ns : List Nat) : Prop := ∀ x, x < ns.length → ∀ k, k < ns.length → (ns.getD x 0).testBit k = true → ns.getD x 0 ||| ns.getD k 0 = ns.getD x 0
theorem set_self (o : List Nat) (i : Nat) : o.set i (o.getD i 0) = o := by
  apply List.ext_getElem (by simp)
  intro j h1 h2
  rw [List.getElem_set]
  split
  · rename_i h
    subst h
    rw [List.getD_eq_getElem?_getD, List.getElem?_eq_getElem h2]; rfl
  · rfl
theorem cst_tra {ns : List Nat} (h : tra ns) {k i : Nat} (hk : k < ns.length) (hi : i < ns.length) : cst ns k i = ns := by
  unfold cst
  split
  · rename_i hb; rw [h i hi k hk hb, set_self]
  · rfl
theorem cin_tra {ns : List Nat} (h : tra ns) {k i : Nat} (hk : k < ns.length) (hi : i ≤ ns.length) : cin ns k i = ns := by
  induction i with
  | zero => rfl
  | succ i ih => rw [cin, ih (by omega), cst_tra h hk (by omega)]
theorem clo_tra {ns : List Nat} (h : tra ns) {k : Nat} (hk : k ≤ ns.length) : clo ns k = ns := by
  induction k with
  | zero => rfl
  | succ k ih => rw [clo, ih (by omega), cin_tra h (by omega) (Nat.le_refl _)]
theorem tra_of {ns : List Nat} (h : clo ns ns.length = ns) : tra ns := by
  intro x hx k hk hb
  have h1 : clo ns k = ns := by
    have a := lel_clo ns 0 k
    have b := lel_clo ns k (ns.length - k)
    rw [Nat.zero_add] at a
    rw [show k + (ns.length - k) = ns.length by omega, h] at b
    exact (a.antisymm b).symm
  have h2 : clo ns (k + 1) = ns := by
    have a := lel_clo ns 0 (k + 1)
    have b := lel_clo ns (k + 1) (ns.length - (k + 1))
    rw [Nat.zero_add] at a
    rw [show k + 1 + (ns.length - (k + 1)) = ns.length by omega, h] at b
    exact (a.antisymm b).symm
  rw [clo, h1] at h2
  have h3 : ∀ i, i ≤ ns.length → cin ns k i = ns := by
    intro i hi
    have a := lel_cin ns k 0 i
    have b := lel_cin ns k i (ns.length - i)
    rw [Nat.zero_add] at a
    rw [show i + (ns.length - i) = ns.length by omega, h2] at b
    exact (a.antisymm b).symm
  have h4 := h3 (x + 1) (by omega)
  rw [cin, h3 x (by omega), cst, if_pos hb] at h4
  have h5 := congrArg (fun l => l.getD x 0) h4
  simp only [getD_set] at h5
  rw [if_pos (by first | exact ⟨rfl, hx⟩ | exact ⟨trivial, hx⟩)] at h5
  exact h5
/-- is the frame transitive? -/
def trv (ns : List Nat) : Bool := (List.range ns.length).all fun x => decide (andnot (img ns (ns.getD x 0)) (ns.getD x 0) = 0)
theorem trv_iff (ns : List Nat) : trv ns = true ↔ tra ns := by
  unfold trv
  rw [List.all_eq_true]
  constructor
  · intro h x hx k hk hb
    have h1 := (andnot_zero _ _).1 (of_decide_eq_true (h x (List.mem_range.2 hx)))
    apply Nat.eq_of_testBit_eq
    intro b
    rw [Nat.testBit_or]
    cases h2 : (ns.getD k 0).testBit b
    · rw [Bool.or_false]
    · rw [h1 b ((imgTo_bit _ _ _ _).2 ⟨k, hk, hb, h2⟩)]; rfl
  · intro h x hx
    rw [List.mem_range] at hx
    refine decide_eq_true ((andnot_zero _ _).2 fun b hb => ?_)
    obtain ⟨k, hk, h1, h2⟩ := (imgTo_bit _ _ _ _).1 hb
    have := congrArg (fun n => n.testBit b) (h x hx k hk h1)
    simp only [Nat.testBit_or, h2, Bool.or_true] at this
    exact this.symm
theorem trv_clo (ns : List Nat) : trv ns = decide (clo ns ns.length = ns) := by
  rw [Bool.eq_iff_iff, trv_iff, decide_eq_true_eq]
  exact ⟨fun h => clo_tra h (Nat.le_refl _), tra_of⟩
/-- is the frame acyclic? -/
def acy (ns : List Nat) : Bool := (List.range ns.length).all fun x => !((clo ns ns.length).getD x 0).testBit x
end Go.Proofs.YtgkogfjifcfkoaaGreat

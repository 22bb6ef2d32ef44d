/- Joined of several texts. -/
import Derived.Test.YtaigiopoogbbbaaGreatY44
import Derived.Test.YtaigiopoogbbbaaGreatY09
import Derived.StillTailTactics
import Derived.Test.YtaigiopoogbbbaaGreatY08
import Derived.Deep.RegionWith
import Derived.Deep.CutRange
import Derived.Deep.DeepCutAuto
namespace Go.Proofs.YtaigiopoogbbbaaGreat
/- Joined of several texts: 33w, 33x, 33y, M05e. -/
open Go.RowKit
set_option linter.unusedVariables false
set_option linter.unusedSimpArgs false
/- Contracts of CountSolutions, of the program and of the reference. -/
/-- the code of a frame, a formula, a variable and values -/
def scode (n : Int) (xs vs : List Int) (zs : List Nd) (v : Int) : Int := if mdOk n xs vs then vcode zs v else 1
/-- the worlds at which a formula is true where a variable is at those of a mask -/
def slv (ns us : List Nat) (f : Fm) (s m : Nat) : Nat := tv ns (us.set s m) f
def csTo (ns us : List Nat) (f : Fm) (s k : Nat) : Nat := (List.range k).countP fun m => slv ns us f s m == m
theorem csTo_succ (ns us : List Nat) (f : Fm) (s k : Nat) : csTo ns us f s (k + 1) = csTo ns us f s k + if slv ns us f s k = k then 1 else 0 := by
  unfold csTo
  rw [List.range_succ, List.countP_append, List.countP_singleton]
  by_cases h : slv ns us f s k = k <;> simp [h]
theorem csTo_le (ns us : List Nat) (f : Fm) (s k : Nat) : csTo ns us f s k ≤ k := by
  have := List.countP_le_length (p := fun m => slv ns us f s m == m) (l := List.range k)
  simpa [csTo] using this
theorem li_set (us : List Nat) (s m : Nat) : (li us).set s (m : Int) = li (us.set s m) := by
  unfold li
  rw [List.map_set]
theorem set_lt {us : List Nat} {k : Nat} (h : ∀ x ∈ us, x < 2 ^ k) (s m : Nat) (hm : m < 2 ^ k) : ∀ x ∈ us.set s m, x < 2 ^ k := by
  intro x hx
  rcases List.mem_or_eq_of_mem_set hx with h1 | h1
  · exact h x h1
  · rw [h1]; exact hm
/- Contracts of CountSolutions, of the program and of the reference. -/
theorem scode_zero {n v : Int} {xs vs : List Int} {zs : List Nd} (h : scode n xs vs zs v = 0) :
    (∃ ns us : List Nat, xs = li ns ∧ vs = li us ∧ n = ns.length ∧ RelN ns ∧ us.length = 6 ∧ ∀ x ∈ us, x < 2 ^ ns.length) ∧ (∃ f : Fm, f.ok = true ∧ zs = enc f ∧ (enc f).length ≤ 40) ∧ ∃ s : Nat, v = s ∧ s ≤ 5 := by
  unfold scode at h
  by_cases hm : mdOk n xs vs = true
  · rw [if_pos hm] at h
    exact ⟨mdOk_iff hm, vcode_zero h⟩
  · rw [if_neg hm] at h; exact absurd h (by decide)
/-- what CountSolutions says -/
def csOut (ns us : List Nat) (f : Fm) (s : Nat) : Nat := csTo ns us f s (2 ^ ns.length)
/- Contracts of CountSolutions, of the reference. -/
/- Plain words of chapters 1 and 5: images, the transitive closure, transitive and acyclic frames. No program in sight. -/
/-- what the members of a mask below k see -/
def imgTo (ns : List Nat) (m : Nat) : Nat → Nat
  | 0 => 0
  | i + 1 => imgTo ns m i ||| if m.testBit i then ns.getD i 0 else 0
def img (ns : List Nat) (m : Nat) : Nat := imgTo ns m ns.length
theorem imgTo_bit (ns : List Nat) (m b k : Nat) : (imgTo ns m k).testBit b = true ↔ ∃ i, i < k ∧ m.testBit i = true ∧ (ns.getD i 0).testBit b = true := by
  induction k with
  | zero => simp [imgTo]
  | succ k ih =>
    rw [imgTo, Nat.testBit_or, Bool.or_eq_true, ih]
    constructor
    · rintro (⟨i, hi, h⟩ | h)
      · exact ⟨i, by omega, h⟩
      · by_cases hm : m.testBit k = true
        · rw [if_pos hm] at h; exact ⟨k, by omega, hm, h⟩
        · rw [if_neg hm, Nat.zero_testBit] at h; cases h
    · rintro ⟨i, hi, h1, h2⟩
      by_cases hk : i = k
      · subst hk; rw [if_pos h1]; exact .inr h2
      · exact .inl ⟨i, by omega, h1, h2⟩
theorem imgTo_lt {ns : List Nat} {k : Nat} (h : ∀ x ∈ ns, x < 2 ^ k) (m i : Nat) : imgTo ns m i < 2 ^ k := by
  induction i with
  | zero => exact Nat.pow_pos (by decide)
  | succ i ih =>
    rw [imgTo]
    refine Nat.or_lt_two_pow ih ?_
    split
    · exact getD_lt h i
    · exact Nat.pow_pos (by decide)
theorem andnot_zero (a b : Nat) : andnot a b = 0 ↔ ∀ i, a.testBit i = true → b.testBit i = true := by
  constructor
  · intro h i hi
    have := congrArg (fun n => n.testBit i) h
    simp only [andnot_testBit, Nat.zero_testBit, hi, Bool.true_and] at this
    simpa using this
  · intro h
    apply Nat.eq_of_testBit_eq
    intro i
    rw [andnot_testBit, Nat.zero_testBit]
    cases ha : a.testBit i
    · rfl
    · rw [h i ha]; rfl
/-- one step of the closure -/
def cst (o : List Nat) (k i : Nat) : List Nat := if (o.getD i 0).testBit k then o.set i (o.getD i 0 ||| o.getD k 0) else o
def cin (o : List Nat) (k : Nat) : Nat → List Nat
  | 0 => o
  | i + 1 => cst (cin o k i) k i
def clo (o : List Nat) : Nat → List Nat
  | 0 => o
  | k + 1 => cin (clo o k) k o.length
theorem cst_length (o : List Nat) (k i : Nat) : (cst o k i).length = o.length := by
  unfold cst; split
  · rw [List.length_set]
  · rfl
theorem cin_length (o : List Nat) (k i : Nat) : (cin o k i).length = o.length := by
  induction i with
  | zero => rfl
  | succ i ih => rw [cin, cst_length, ih]
theorem clo_length (o : List Nat) (k : Nat) : (clo o k).length = o.length := by
  induction k with
  | zero => rfl
  | succ k ih => rw [clo, cin_length, ih]
theorem cst_lt {o : List Nat} {n : Nat} (h : ∀ x ∈ o, x < 2 ^ n) (k i : Nat) : ∀ x ∈ cst o k i, x < 2 ^ n := by
  unfold cst; split
  · exact set_lt h _ _ (Nat.or_lt_two_pow (getD_lt h i) (getD_lt h k))
  · exact h
theorem cin_lt {o : List Nat} {n : Nat} (h : ∀ x ∈ o, x < 2 ^ n) (k i : Nat) : ∀ x ∈ cin o k i, x < 2 ^ n := by
  induction i with
  | zero => exact h
  | succ i ih => exact cst_lt ih _ _
theorem clo_lt {o : List Nat} {n : Nat} (h : ∀ x ∈ o, x < 2 ^ n) (k : Nat) : ∀ x ∈ clo o k, x < 2 ^ n := by
  induction k with
  | zero => exact h
  | succ k ih => exact cin_lt ih _ _
theorem getD_set (o : List Nat) (i j v : Nat) : (o.set i v).getD j 0 = if i = j ∧ i < o.length then v else o.getD j 0 := by
  rw [List.getD_eq_getElem?_getD, List.getD_eq_getElem?_getD, List.getElem?_set]
  by_cases h : i = j
  · subst h
    by_cases hi : i < o.length
    · simp [hi]
    · simp [hi]
  · simp [h]
/-- o is part of p -/
def lel (o p : List Nat) : Prop := o.length = p.length ∧ ∀ i b, (o.getD i 0).testBit b = true → (p.getD i 0).testBit b = true
theorem lel.refl (o : List Nat) : lel o o := ⟨rfl, fun _ _ h => h⟩
theorem lel.trans {o p q : List Nat} (h : lel o p) (h' : lel p q) : lel o q := ⟨h.1.trans h'.1, fun i b hb => h'.2 i b (h.2 i b hb)⟩
theorem lel.antisymm {o p : List Nat} (h : lel o p) (h' : lel p o) : o = p := by
  apply List.ext_getElem h.1
  intro i h1 h2
  have e1 : o.getD i 0 = o[i] := by rw [List.getD_eq_getElem?_getD, List.getElem?_eq_getElem h1]; rfl
  have e2 : p.getD i 0 = p[i] := by rw [List.getD_eq_getElem?_getD, List.getElem?_eq_getElem h2]; rfl
  rw [← e1, ← e2]
  apply Nat.eq_of_testBit_eq
  intro b
  rw [Bool.eq_iff_iff]
  exact ⟨h.2 i b, h'.2 i b⟩
theorem lel_cst (o : List Nat) (k i : Nat) : lel o (cst o k i) := by
  refine ⟨(cst_length o k i).symm, fun j b hb => ?_⟩
  unfold cst
  split
  · rw [getD_set]
    split
    · rename_i h; rw [Nat.testBit_or, h.1, hb]; rfl
    · exact hb
  · exact hb
theorem lel_cin (o : List Nat) (k i j : Nat) : lel (cin o k i) (cin o k (i + j)) := by
  induction j with
  | zero => exact lel.refl _
  | succ j ih => exact ih.trans (lel_cst _ _ _)
theorem lel_clo (o : List Nat) (k j : Nat) : lel (clo o k) (clo o (k + j)) := by
  induction j with
  | zero => exact lel.refl _
  | succ j ih => refine ih.trans ?_; have := lel_cin (clo o (k + j)) (k + j) 0 o.length; rw [Nat.zero_add] at this; exact this
def tra (ns : List Nat) : Prop := ∀ x, x < ns.length → ∀ k, k < ns.length → (ns.getD x 0).testBit k = true → ns.getD x 0 ||| ns.getD k 0 = ns.getD x 0
theorem set_self (o : List Nat) (i : Nat) : o.set i (o.getD i 0) = o := by
  apply List.ext_getElem (by simp)
  intro j h1 h2
  rw [List.getElem_set]
  split
  · rename_i h
    subst h
    rw [List.getD_eq_getElem?_getD, List.getElem?_eq_getElem h2]; rfl
  · rfl
theorem cst_tra {ns : List Nat} (h : tra ns) {k i : Nat} (hk : k < ns.length) (hi : i < ns.length) : cst ns k i = ns := by
  unfold cst
  split
  · rename_i hb; rw [h i hi k hk hb, set_self]
  · rfl
theorem cin_tra {ns : List Nat} (h : tra ns) {k i : Nat} (hk : k < ns.length) (hi : i ≤ ns.length) : cin ns k i = ns := by
  induction i with
  | zero => rfl
  | succ i ih => rw [cin, ih (by omega), cst_tra h hk (by omega)]
theorem clo_tra {ns : List Nat} (h : tra ns) {k : Nat} (hk : k ≤ ns.length) : clo ns k = ns := by
  induction k with
  | zero => rfl
  | succ k ih => rw [clo, ih (by omega), cin_tra h (by omega) (Nat.le_refl _)]
theorem tra_of {ns : List Nat} (h : clo ns ns.length = ns) : tra ns := by
  intro x hx k hk hb
  have h1 : clo ns k = ns := by
    have a := lel_clo ns 0 k
    have b := lel_clo ns k (ns.length - k)
    rw [Nat.zero_add] at a
    rw [show k + (ns.length - k) = ns.length by omega, h] at b
    exact (a.antisymm b).symm
  have h2 : clo ns (k + 1) = ns := by
    have a := lel_clo ns 0 (k + 1)
    have b := lel_clo ns (k + 1) (ns.length - (k + 1))
    rw [Nat.zero_add] at a
    rw [show k + 1 + (ns.length - (k + 1)) = ns.length by omega, h] at b
    exact (a.antisymm b).symm
  rw [clo, h1] at h2
  have h3 : ∀ i, i ≤ ns.length → cin ns k i = ns := by
    intro i hi
    have a := lel_cin ns k 0 i
    have b := lel_cin ns k i (ns.length - i)
    rw [Nat.zero_add] at a
    rw [show i + (ns.length - i) = ns.length by omega, h2] at b
    exact (a.antisymm b).symm
  have h4 := h3 (x + 1) (by omega)
  rw [cin, h3 x (by omega), cst, if_pos hb] at h4
  have h5 := congrArg (fun l => l.getD x 0) h4
  simp only [getD_set] at h5
  rw [if_pos (by first | exact ⟨rfl, hx⟩ | exact ⟨trivial, hx⟩)] at h5
  exact h5
/-- is the frame transitive? -/
def trv (ns : List Nat) : Bool := (List.range ns.length).all fun x => decide (andnot (img ns (ns.getD x 0)) (ns.getD x 0) = 0)
theorem trv_iff (ns : List Nat) : trv ns = true ↔ tra ns := by
  unfold trv
  rw [List.all_eq_true]
  constructor
  · intro h x hx k hk hb
    have h1 := (andnot_zero _ _).1 (of_decide_eq_true (h x (List.mem_range.2 hx)))
    apply Nat.eq_of_testBit_eq
    intro b
    rw [Nat.testBit_or]
    cases h2 : (ns.getD k 0).testBit b
    · rw [Bool.or_false]
    · rw [h1 b ((imgTo_bit _ _ _ _).2 ⟨k, hk, hb, h2⟩)]; rfl
  · intro h x hx
    rw [List.mem_range] at hx
    refine decide_eq_true ((andnot_zero _ _).2 fun b hb => ?_)
    obtain ⟨k, hk, h1, h2⟩ := (imgTo_bit _ _ _ _).1 hb
    have := congrArg (fun n => n.testBit b) (h x hx k hk h1)
    simp only [Nat.testBit_or, h2, Bool.or_true] at this
    exact this.symm
theorem trv_clo (ns : List Nat) : trv ns = decide (clo ns ns.length = ns) := by
  rw [Bool.eq_iff_iff, trv_iff, decide_eq_true_eq]
  exact ⟨fun h => clo_tra h (Nat.le_refl _), tra_of⟩
/-- is the frame acyclic? -/
def acy (ns : List Nat) : Bool := (List.range ns.length).all fun x => !((clo ns ns.length).getD x 0).testBit x
/-- the mask after k rounds -/
def slvn (ns us : List Nat) (f : Fm) (s : Nat) : Nat → Nat
  | 0 => 0
  | k + 1 => slv ns us f s (slvn ns us f s k)
/-- what SolveOnFrame says -/
def sfOk (ns : List Nat) (f : Fm) (s : Nat) : Bool := trv ns && acy ns && gd f s
theorem slv_lt (ns us : List Nat) (f : Fm) (s m : Nat) (hus : ∀ x ∈ us, x < 2 ^ ns.length) (hm : m < 2 ^ ns.length) : slv ns us f s m < 2 ^ ns.length :=
  tv_lt ns _ (set_lt hus s m hm) f
theorem slvn_lt (ns us : List Nat) (f : Fm) (s : Nat) (hus : ∀ x ∈ us, x < 2 ^ ns.length) (k : Nat) : slvn ns us f s k < 2 ^ ns.length := by
  induction k with
  | zero => exact Nat.pow_pos (by decide)
  | succ k ih => exact slv_lt ns us f s _ hus ih
/- Contracts of chapters 1 and 5: the transitive closure, of the program and of the reference; bits and images. -/
open Go.RowKit
set_option linter.unusedVariables false
set_option linter.unusedSimpArgs false
/- Contracts of FixedPointTrace, of the program and of the reference. -/
open Go.RowKit
set_option linter.unusedVariables false
set_option linter.unusedSimpArgs false
/-- a variable is guarded, and there is no other one -/
def lone (f : Fm) (s : Nat) : Bool := gd f s && only (enc f) s
theorem wrap_two_pow'' {n : Nat} (h : n ≤ 62) : IntKind.i64.wrap ((2 : Int) ^ n) = ((2 ^ n : Nat) : Int) := by
  have h1 := two_pow_le h
  have h2 : (0 : Int) < 2 ^ n := Int.pow_pos (by decide)
  rw [IntWalk.i64_in _ ⟨by omega, by omega⟩, cast_two_pow]
/- Contracts of chapter 5: flags of a frame, of the program. -/
open Go.RowKit
set_option linter.unusedVariables false
set_option linter.unusedSimpArgs false
theorem mems_mem {m n : Nat} (hm : m < 2 ^ n) {x : Int} (hx : x ∈ mems m) : ∃ i : Nat, x = i ∧ i < n := by
  unfold mems memsTo at hx
  rw [List.mem_map] at hx
  obtain ⟨i, hi, rfl⟩ := hx
  rw [List.mem_filter] at hi
  refine ⟨i, rfl, ?_⟩
  rcases Nat.lt_or_ge i n with h | h
  · exact h
  · have := Nat.testBit_lt_two_pow (Nat.lt_of_lt_of_le hm (Nat.pow_le_pow_right (by decide) h))
    rw [this] at hi
    exact absurd hi.2 (by decide)
theorem mems_length (m : Nat) : (mems m).length ≤ 64 := memsTo_length m 64
/- Joined of several texts: 05h, 05g. -/
open Go.RowKit
set_option linter.unusedVariables false
set_option linter.unusedSimpArgs false
/- Contracts of chapter 5: two flags of a frame, of the program. -/
theorem li_eq_iff (a b : List Nat) : decide (li a = li b) = decide (a = b) := by
  have : li a = li b ↔ a = b := by
    unfold li
    constructor
    · intro h
      exact (List.map_inj_right (fun x y h => Int.ofNat.inj h)).1 h
    · intro h; rw [h]
  rw [Bool.eq_iff_iff, decide_eq_true_eq, decide_eq_true_eq, this]
end Go.Proofs.YtaigiopoogbbbaaGreat

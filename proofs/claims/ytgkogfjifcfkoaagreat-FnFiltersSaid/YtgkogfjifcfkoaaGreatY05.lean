/- Joined of several texts. -/
import Derived.Test.YtgkogfjifcfkoaaGreatY04
import Derived.StillTailTactics
import Derived.Deep.RegionHeld3
namespace Go.Proofs.YtgkogfjifcfkoaaGreat
/- Joined of several texts: M07, M07b, M07c, M07q. -/
open Go.RowKit
set_option linter.unusedVariables false
set_option linter.unusedSimpArgs false
/- Plain words of chapter 7: bisimulations. No program in sight. -/
/-- a frame with six values -/
structure MdN (ns us : List Nat) : Prop where
  r : RelN ns
  l : us.length = 6
  b : ∀ x ∈ us, x < 2 ^ ns.length
def atm (us ts : List Nat) (x y : Nat) : Bool := (List.range 6).all fun v => (us.getD v 0).testBit x == (ts.getD v 0).testBit y
/-- each member of a mask is linked to a member of another one -/
def frt (lk : List Nat) (a b : Nat) : Bool := (List.range lk.length).all fun s => !(a.testBit s && decide (lk.getD s 0 &&& b = 0))
def bck (lk : List Nat) (a b : Nat) : Bool := decide (andnot b (img lk a) = 0)
theorem mems_iff {m : Nat} {x : Int} : x ∈ mems m ↔ ∃ i : Nat, i < 64 ∧ m.testBit i = true ∧ x = i := by
  unfold mems memsTo
  rw [List.mem_map]
  constructor
  · rintro ⟨i, hi, rfl⟩
    rw [List.mem_filter, List.mem_range] at hi
    exact ⟨i, hi.1, hi.2, rfl⟩
  · rintro ⟨i, h1, h2, rfl⟩
    exact ⟨i, List.mem_filter.2 ⟨List.mem_range.2 h1, h2⟩, rfl⟩
theorem bit_lt {m n i : Nat} (hm : m < 2 ^ n) (h : m.testBit i = true) : i < n := by
  rcases Nat.lt_or_ge i n with h1 | h1
  · exact h1
  · rw [Nat.testBit_lt_two_pow (Nat.lt_of_lt_of_le hm (Nat.pow_le_pow_right (by decide) h1))] at h; cases h
/-- the link of the worlds for which a condition holds -/
def lnk (n k : Nat) (p : Nat → Nat → Bool) : List Nat := (List.range n).map fun x => msk (p x) k
theorem lnk_length (n k : Nat) (p : Nat → Nat → Bool) : (lnk n k p).length = n := by simp [lnk]
theorem lnk_lt (n k : Nat) (p : Nat → Nat → Bool) : ∀ x ∈ lnk n k p, x < 2 ^ k := by
  intro x hx
  unfold lnk at hx
  rw [List.mem_map] at hx
  obtain ⟨i, -, rfl⟩ := hx
  exact msk_lt _ _
theorem lnk_getD {n k x : Nat} (p : Nat → Nat → Bool) (h : x < n) : (lnk n k p).getD x 0 = msk (p x) k := by
  unfold lnk
  rw [List.getD_eq_getElem?_getD, List.getElem?_map, List.getElem?_range h]
  rfl
def hol (ns us ks ts lk : List Nat) (x y : Nat) : Bool := atm us ts x y && (frt lk (ns.getD x 0) (ks.getD y 0) && bck lk (ns.getD x 0) (ks.getD y 0))
/-- the links of the worlds that are bisimilar in so many rounds -/
def bnd (ns us ks ts : List Nat) : Nat → List Nat
  | 0 => lnk ns.length ks.length (atm us ts)
  | k + 1 => lnk ns.length ks.length (hol ns us ks ts (bnd ns us ks ts k))
theorem lnk_congr {n k : Nat} {p q : Nat → Nat → Bool} (h : ∀ x < n, ∀ y < k, p x y = q x y) : lnk n k p = lnk n k q := by
  unfold lnk
  refine List.map_congr_left fun x hx => ?_
  exact msk_congr _ _ _ fun y hy => h x (List.mem_range.1 hx) y hy
/- Plain law of chapter 7: the links of a model with itself are equivalences. No program in sight. -/
/-- the worlds x and y are linked in k rounds -/
def rel (ns us : List Nat) (k x y : Nat) : Prop := ((bnd ns us ns us k).getD x 0).testBit y = true
/-- the number of the class of each of the first x elements, and the number of classes: elements with one key are in one class -/
def dvd (key : Nat → Nat) : Nat → List Nat × Nat
  | 0 => ([], 0)
  | x + 1 => match (List.range x).find? (fun y => decide (key y = key x)) with
    | some y => ((dvd key x).1 ++ [(dvd key x).1.getD y 0], (dvd key x).2)
    | none => ((dvd key x).1 ++ [(dvd key x).2], (dvd key x).2 + 1)
theorem dvd_length (key : Nat → Nat) (x : Nat) : (dvd key x).1.length = x := by
  induction x with
  | zero => rfl
  | succ x ih => rw [dvd]; split <;> simp [ih]
theorem dvd_count (key : Nat → Nat) (x : Nat) : (dvd key x).2 ≤ x := by
  induction x with
  | zero => exact Nat.le_refl _
  | succ x ih => rw [dvd]; split <;> simp <;> omega
theorem dvd_lt (key : Nat → Nat) (x : Nat) : ∀ c ∈ (dvd key x).1, c < (dvd key x).2 := by
  induction x with
  | zero => intro c hc; simp [dvd] at hc
  | succ x ih =>
    intro c hc
    rw [dvd] at hc ⊢
    cases hf : (List.range x).find? (fun y => decide (key y = key x)) with
    | some y =>
      rw [hf] at hc
      simp only [List.mem_append, List.mem_singleton] at hc ⊢
      rcases hc with hc | hc
      · exact ih c hc
      · have hy := List.mem_of_find?_eq_some hf
        rw [List.mem_range] at hy
        rw [hc, List.getD_eq_getElem?_getD, List.getElem?_eq_getElem (by rw [dvd_length]; exact hy)]
        exact ih _ (List.getElem_mem _)
    | none =>
      rw [hf] at hc
      simp only [List.mem_append, List.mem_singleton] at hc ⊢
      rcases hc with hc | hc
      · have := ih c hc; omega
      · omega
/- Plain law of chapter 7: the map of divided after j elements. No program in sight. -/
/-- the class of the first of j elements with a key -/
def fst (key : Nat → Nat) (j a : Nat) : Option Nat := ((List.range j).find? (fun y => decide (key y = a))).map fun y => (dvd key j).1.getD y 0
theorem dvd_keep (key : Nat → Nat) (j y : Nat) (h : y < j) : (dvd key (j + 1)).1.getD y 0 = (dvd key j).1.getD y 0 := by
  have hl := dvd_length key j
  rw [dvd]
  split <;> simp only <;> rw [List.getD_eq_getElem?_getD, List.getElem?_append_left (by omega), ← List.getD_eq_getElem?_getD]
theorem fst_known {key : Nat → Nat} {j y : Nat} (h : (List.range j).find? (fun z => decide (key z = key j)) = some y) : fst key j (key j) = some ((dvd key j).1.getD y 0) := by
  unfold fst; rw [h]; rfl
theorem fst_new {key : Nat → Nat} {j : Nat} (h : (List.range j).find? (fun z => decide (key z = key j)) = none) : fst key j (key j) = none := by
  unfold fst; rw [h]; rfl
theorem fst_old {key : Nat → Nat} {j a y : Nat} (h : (List.range j).find? (fun z => decide (key z = a)) = some y) : fst key (j + 1) a = fst key j a := by
  have hy := List.mem_range.1 (List.mem_of_find?_eq_some h)
  unfold fst
  rw [List.range_succ, List.find?_append, h]
  show some ((dvd key (j + 1)).1.getD y 0) = some ((dvd key j).1.getD y 0)
  rw [dvd_keep key j y hy]
theorem fst_none {key : Nat → Nat} {j a : Nat} (h : (List.range j).find? (fun z => decide (key z = a)) = none) (hne : ¬ key j = a) : fst key (j + 1) a = fst key j a := by
  unfold fst
  rw [List.range_succ, List.find?_append, h]
  simp [hne]
theorem fst_step_known {key : Nat → Nat} {j y : Nat} (h : (List.range j).find? (fun z => decide (key z = key j)) = some y) : fst key (j + 1) = fst key j := by
  funext a
  cases ha : (List.range j).find? (fun z => decide (key z = a)) with
  | some z => exact fst_old ha
  | none => exact fst_none ha (fun e => by subst e; rw [h] at ha; cases ha)
theorem fst_step_new {key : Nat → Nat} {j : Nat} (h : (List.range j).find? (fun z => decide (key z = key j)) = none) : fst key (j + 1) = fun a => if a = key j then some (dvd key j).2 else fst key j a := by
  funext a
  by_cases he : a = key j
  · subst he
    rw [if_pos rfl]
    unfold fst
    rw [List.range_succ, List.find?_append, h]
    have hl := dvd_length key j
    have : (dvd key (j + 1)).1.getD j 0 = (dvd key j).2 := by
      rw [dvd, h]
      simp only
      rw [List.getD_eq_getElem?_getD, List.getElem?_append_right (by omega), hl]
      simp
    rw [List.getD_eq_getElem?_getD] at this
    simp [this]
  · rw [if_neg he]
    cases ha : (List.range j).find? (fun z => decide (key z = a)) with
    | some z => exact fst_old ha
    | none => exact fst_none ha (fun e => he e.symm)
/- Plain words of chapter 7: quotients. No program in sight. -/
/-- the masks of the single numbers of a list -/
def pw (cl : List Nat) : List Nat := cl.map fun c => 2 ^ c
/-- the number of the classes -/
def mx (cl : List Nat) : Nat → Nat
  | 0 => 0
  | k + 1 => max (mx cl k) (cl.getD k 0 + 1)
theorem mx_mono (cl : List Nat) (k j : Nat) (h : k ≤ j) : mx cl k ≤ mx cl j := by
  induction j with
  | zero => obtain rfl : k = 0 := by omega
            exact Nat.le_refl _
  | succ j ih =>
    rcases Nat.lt_or_ge k (j + 1) with h1 | h1
    · have := ih (by omega); rw [mx]; omega
    · obtain rfl : k = j + 1 := by omega
      exact Nat.le_refl _
theorem mx_gt (cl : List Nat) {k i : Nat} (h : i < k) : cl.getD i 0 < mx cl k := by
  have := mx_mono cl (i + 1) k h
  rw [mx] at this
  omega
theorem mx_le (cl : List Nat) (n k : Nat) (h : ∀ i, i < k → cl.getD i 0 < n) : mx cl k ≤ n := by
  induction k with
  | zero => exact Nat.zero_le _
  | succ k ih =>
    have h1 := ih fun i hi => h i (by omega)
    have h2 := h k (by omega)
    rw [mx]; omega
theorem getD_mem {cl : List Nat} {i : Nat} (h : i < cl.length) : cl.getD i 0 ∈ cl := by
  rw [List.getD_eq_getElem?_getD, List.getElem?_eq_getElem h]
  exact List.getElem_mem h
/- The symmetric flag of a frame, of the program and of the reference. Written by gen14D.py. -/
open Go.RowKit
set_option linter.unusedVariables false
set_option linter.unusedSimpArgs false
/-- the inverse of a relation -/
def inv (ns : List Nat) : List Nat := lnk ns.length ns.length fun x y => (ns.getD y 0).testBit x
theorem inv_length (ns : List Nat) : (inv ns).length = ns.length := lnk_length _ _ _
theorem inv_bit (ns : List Nat) {x : Nat} (hx : x < ns.length) (y : Nat) : ((inv ns).getD x 0).testBit y = (decide (y < ns.length) && (ns.getD y 0).testBit x) := by
  unfold inv
  rw [lnk_getD _ hx, msk_testBit]
/-- the inverse, so far: the first k rows are done, of row k what Q tells -/
def IV (ns : List Nat) (k : Nat) (Q : Nat → Prop) (os : List Nat) : Prop :=
  os.length = ns.length ∧ (∀ x ∈ os, x < 2 ^ ns.length) ∧ ∀ x y, x < ns.length → ((os.getD x 0).testBit y = true ↔ (y < k ∧ (ns.getD y 0).testBit x = true) ∨ (y = k ∧ Q x))
theorem IV.zero (ns : List Nat) : IV ns 0 (fun _ => False) (List.replicate ns.length 0) := by
  refine ⟨by simp, fun x hx => by rw [List.mem_replicate] at hx; rw [hx.2]; exact Nat.pow_pos (by decide), fun x y hx => ?_⟩
  rw [List.getD_eq_getElem?_getD, List.getElem?_replicate, if_pos hx]
  simp
theorem IV.step {ns : List Nat} {k : Nat} {Q : Nat → Prop} {os : List Nat} (h : IV ns k Q os) (hk : k < ns.length) {x : Nat} (hx : x < ns.length) {Q' : Nat → Prop} (hQ : ∀ z, Q' z ↔ Q z ∨ z = x) : IV ns k Q' (os.set x (os.getD x 0 ||| 2 ^ k)) := by
  obtain ⟨h1, h2, h3⟩ := h
  refine ⟨by rw [List.length_set, h1], set_lt h2 x _ (Nat.or_lt_two_pow (getD_lt h2 x) (Nat.pow_lt_pow_right (by decide) hk)), fun z y hz => ?_⟩
  rw [getD_set]
  by_cases hzx : x = z
  · subst hzx
    rw [if_pos ⟨rfl, by omega⟩, Nat.testBit_or, Nat.testBit_two_pow, Bool.or_eq_true, h3 x y hz, hQ, decide_eq_true_eq]
    constructor
    · rintro ((h | ⟨h, q⟩) | h)
      · exact .inl h
      · exact .inr ⟨h, .inl q⟩
      · exact .inr ⟨h.symm, .inr rfl⟩
    · rintro (h | ⟨h, q | -⟩)
      · exact .inl (.inl h)
      · exact .inl (.inr ⟨h, q⟩)
      · exact .inr h.symm
  · rw [if_neg (fun hh => hzx hh.1), h3 z y hz, hQ]
    have hzx' : ¬ z = x := fun e => hzx e.symm
    simp [hzx']
theorem IV.next {ns : List Nat} {k : Nat} {Q : Nat → Prop} {os : List Nat} (h : IV ns k Q os) (hQ : ∀ x, x < ns.length → (Q x ↔ (ns.getD k 0).testBit x = true)) : IV ns (k + 1) (fun _ => False) os := by
  obtain ⟨h1, h2, h3⟩ := h
  refine ⟨h1, h2, fun x y hx => ?_⟩
  rw [h3 x y hx, hQ x hx]
  constructor
  · rintro (⟨h, b⟩ | ⟨rfl, b⟩)
    · exact .inl ⟨by omega, b⟩
    · exact .inl ⟨by omega, b⟩
  · rintro (⟨h, b⟩ | ⟨-, hf⟩)
    · rcases Nat.lt_or_ge y k with h' | h'
      · exact .inl ⟨h', b⟩
      · obtain rfl : y = k := by omega
        exact .inr ⟨rfl, b⟩
    · exact hf.elim
theorem IV.done {ns os : List Nat} (h : IV ns ns.length (fun _ => False) os) : os = inv ns := by
  obtain ⟨h1, h2, h3⟩ := h
  apply List.ext_getElem (by rw [h1, inv_length])
  intro i hi1 hi2
  have hin : i < ns.length := by omega
  have e1 : os[i] = os.getD i 0 := by rw [List.getD_eq_getElem?_getD, List.getElem?_eq_getElem hi1]; rfl
  have e2 : (inv ns)[i] = (inv ns).getD i 0 := by rw [List.getD_eq_getElem?_getD, List.getElem?_eq_getElem hi2]; rfl
  rw [e1, e2]
  apply Nat.eq_of_testBit_eq
  intro y
  rw [inv_bit ns hin, Bool.eq_iff_iff, h3 i y hin, Bool.and_eq_true, decide_eq_true_eq]
  simp
theorem mems_bit {m x : Nat} (hx : x < 64) : (x : Int) ∈ mems m ↔ m.testBit x = true := by
  rw [mems_iff]
  constructor
  · rintro ⟨i, -, hb, e⟩
    have : i = x := by omega
    rw [← this]; exact hb
  · intro hb; exact ⟨x, hx, hb, rfl⟩
/- Joined of several texts: 07a, 07b, 07c. -/
open Go.RowKit
set_option linter.unusedVariables false
set_option linter.unusedSimpArgs false
/- Contracts of chapter 7, of the program: truths, image, forth, back. -/
/- Contracts of chapter 7, of the program: back, linkOf. -/
/- Contracts of chapter 7, of the program: the closures of bounded; append as a step of a region that draws. -/
section
variable {P : Program} {α : Type} {K : Cod α}
theorem wp_any (w : World) {o : Oper} {a : Act} {KK : Act → World → Prop} {Q : Exit → Act → World → Prop} {t e : TypeId} {z : Value} {bytes : Nat}
    (T : Ty P t e z K.size bytes) (s x : Operand)
    (ho : o.op = .call { callee := .builtin .append, args := #[s, x], argTypes := #[t, t] })
    {B : Nat} {v : Value} {xs : List α} (hs : a.eval s = v) (hown : Ow K e B w v xs)
    {A : Option Addr} {m c : Nat} {news : List α} (hx : a.eval x = .slice A m c) (hm : m = news.length) (hr : Rd w A (flat K news))
    (hbytes : (xs.length + news.length) * bytes ≤ 140737488355328) (hbase : B ≤ w.heap.size)
    (h : ∀ v' w', Ow K e B w' v' (xs ++ news) → w.grownBy w' v.ownBlock → Below B w w' → (v'.ownBlock = v.ownBlock ∨ v'.ownBlock = some w.heap.size) → KK (a.put o.dst v') w') :
    o.wp P a w KK Q := by
  subst hm
  obtain ⟨i, hi, hz, hsize, hby⟩ := T.info
  have hpos := T.pos
  have hmax : xs.length + news.length ≤ 140737488355328 := Nat.le_trans (Nat.le_mul_of_pos_right _ hpos) hbytes
  obtain ⟨⟨A0, c0, rfl, hc0, hm0⟩, ho'⟩ := hown
  have main : ∃ v' w', (Builtin.append_ #[t, t] o.type #[.slice A0 xs.length c0, .slice A news.length c]).run P w = .ok v' w' ∧ w'.ownsRow B e K.size v' (xs.length + news.length) (flat K xs ++ flat K news) ∧ w.grownBy w' (Value.ownBlock (.slice A0 xs.length c0)) ∧
      (v'.ownBlock = (Value.ownBlock (.slice A0 xs.length c0)) ∨ v'.ownBlock = some w.heap.size) ∧ ∃ A' c', v' = .slice A' (xs.length + news.length) c' ∧ xs.length + news.length ≤ c' ∧ c' ≤ 9223372036854775807 := by
    have shape : ∀ v' w', World.ownsRow w' B e K.size v' (xs.length + news.length) (flat K xs ++ flat K news) → ∃ A' c', v' = .slice A' (xs.length + news.length) c' ∧ xs.length + news.length ≤ c' ∧ c' ≤ 9223372036854775807 := by
      intro v' w' h
      rcases h.2 with ⟨h1, h2⟩ | ⟨g, cap, cur, hv, _, _, hnc, hcm, _⟩
      · exact ⟨none, 0, by rw [h1, h2], by omega, by omega⟩
      · exact ⟨_, cap, hv, hnc, by simp only [maxLen] at hcm; omega⟩
    by_cases hn : news = []
    · subst hn
      refine ⟨.slice A0 xs.length c0, w, ?_, by simpa [flat] using ho', World.grownBy.refl w _, .inl rfl, A0, c0, by simp, by simpa using hc0, hm0⟩
      rcases ho'.2 with ⟨h1, h2⟩ | ⟨g, cap, cur, hv, _, _, hnc, _⟩
      · rw [h1]
        rcases A with _ | A <;> simp [Builtin.append_, run_underlying T.under, sizeOf, typeInfo, hi, Builtin.lenOf, Builtin.firstCells, loadCells, loadCellsFrom]
      · injection hv with hA _ hcc
        subst hA; subst hcc
        rcases A with _ | A <;> simp [Builtin.append_, run_underlying T.under, sizeOf, typeInfo, hi, Builtin.lenOf, Builtin.firstCells, loadCells, loadCellsFrom, hnc, storeCells]
    · rcases hr with hr | ⟨b, off, rfl, _, hcell⟩
      · have := flat_length (K := K) news
        rw [hr, List.length_nil] at this
        have h0 : 0 < news.length := by cases news with | nil => exact absurd rfl hn | cons _ _ => simp
        have := Nat.mul_pos h0 K.pos
        omega
      · obtain ⟨v', w', hrun, h2, h3, _, h5⟩ := run_append_own_at (P := P) w B t o.type e i z K.size bytes T.under hi hz hsize hby T.cells K.pos _ _ _ ho' ⟨b, off, none⟩ news.length c (flat K news) (flat_length news)
          (fun j u hu => by rw [add_lit]; exact hcell j u hu) (flat_one news) (by simp only [maxLen]; omega) hbytes hbase
        exact ⟨v', w', hrun, h2, h3, h5, shape v' w' h2⟩
  obtain ⟨v', w', hrun, h2, h3, h4, A', c', hv', hn', hm'⟩ := main
  unfold Oper.wp execOp
  simp only [ho, resolve, invoke, builtin, Sem.run_bind, Sem.run_pure, Result.andThen_ok, List.map_toArray, List.map_cons, List.map_nil, hs, hx, hrun]
  refine (h v' w' ⟨⟨A', c', by rw [hv', List.length_append], by simpa using hn', hm'⟩, by rw [flat_append, List.length_append]; exact h2⟩ h3 ?_ h4)
  refine (Below.refl _ _).grown h3 hbase fun k hk => (ho'.lt k hk).1


/-- append of one element, made just now, as a step of a region that draws its order -/
theorem step_one (w : World) {ops : Array Oper} {o : Oper} {a : Act} {KK : Act → World → Prop} {Q : Exit → Act → World → Prop} {E : Prop} {t e : TypeId} {z : Value} {bytes : Nat}
    (T : Ty P t e z K.size bytes) (hgd : o.guard = none) (s x : Operand)
    (ho : o.op = .call { callee := .builtin .append, args := #[s, x], argTypes := #[t, t] })
    {B : Nat} {v : Value} {xs : List α} (hs : a.eval s = v) (hown : Ow K e B w v xs) (y : α) {cs : Array Value} (hcs : K.cells y = cs.toList)
    (hx : a.eval x = .slice (some ⟨w.heap.size, 0, none⟩) 1 1)
    (hbytes : (xs.length + 1) * bytes ≤ 140737488355328) (hbase : B ≤ w.heap.size)
    (h : ∀ v' w', Ow K e B w' v' (xs ++ [y]) → (w.alloc (.cells cs e)).grownBy w' v.ownBlock → Below B w w' → (v'.ownBlock = v.ownBlock ∨ v'.ownBlock = some (w.heap.size + 1)) → KK (a.put o.dst v') w') :
    if Region.wanted o (yielded ops a.tmps) = true then Oper.wp P o a (w.alloc (.cells cs e)) KK Q else E := by
  have hw : Region.wanted o (yielded ops a.tmps) = true := by simp [Region.wanted, hgd]
  rw [if_pos hw]
  have hr : Rd (w.alloc (.cells cs e)) (some ⟨w.heap.size, 0, none⟩) (flat K [y]) := by
    refine .inr ⟨w.heap.size, 0, rfl, by simp, fun k u hu => ?_⟩
    rw [flat_cons, flat_nil, List.append_nil, hcs] at hu
    have := cell_of_row (w.alloc (.cells cs e)) w.heap.size k cs e (0, 0) (heap_alloc_new w _)
    rw [Nat.zero_add, this]
    simpa using hu
  refine wp_any (w.alloc (.cells cs e)) T s x ho hs (hown.alloc _) hx rfl hr hbytes (by simp; omega) fun v' w' h1 h2 h3 h4 => ?_
  exact h v' w' h1 h2 (((Below.refl _ _).alloc hbase _).trans h3) (by simpa using h4)
end
theorem ty_intss : Ty Tryz.prog 24 27 (.slice none 0 0) 1 24 := Ty.mk' Tryz.underlying24 (by kernel_rfl) rfl (by decide)
end Go.Proofs.YtgkogfjifcfkoaaGreat

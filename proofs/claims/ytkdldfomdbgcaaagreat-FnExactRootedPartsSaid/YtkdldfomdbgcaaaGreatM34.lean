/- Plain law of the least renumbering: the orders of n elements, listed by levels and by depth; renumbered relations; the order of lists; sorted insertion without doubles. -/
import Derived.Test.YtkdldfomdbgcaaaGreat34C
namespace Go.Proofs.YtkdldfomdbgcaaaGreat
open Go.RowKit
set_option linter.unusedVariables false
set_option linter.unusedSimpArgs false
/-- the numbers below n that a list lacks -/
def frs (n : Nat) (o : List Nat) : List Nat := (List.range n).filter fun v => !o.contains v
/-- all lists that begin with o and have j more numbers, none twice -/
def ext (n : Nat) : Nat → List Nat → List (List Nat)
  | 0, o => [o]
  | j + 1, o => (frs n o).flatMap fun v => ext n j (o ++ [v])
def nxt (n : Nat) (L : List (List Nat)) : List (List Nat) := L.flatMap fun o => (frs n o).map fun v => o ++ [v]
def ors (n : Nat) : Nat → List (List Nat)
  | 0 => [[]]
  | k + 1 => nxt n (ors n k)
theorem ext_nxt (n j : Nat) (L : List (List Nat)) : (nxt n L).flatMap (ext n j) = L.flatMap (ext n (j + 1)) := by
  unfold nxt
  rw [List.flatMap_assoc]
  congr 1
  funext o
  rw [List.flatMap_map]
  rfl
theorem ors_ext (n : Nat) : ∀ k j, (ors n k).flatMap (ext n j) = ext n (j + k) []
  | 0, j => by simp [ors]
  | k + 1, j => by
    rw [ors, ext_nxt, ors_ext n k (j + 1)]
    congr 1
    omega
theorem ors_eq (n k : Nat) : ors n k = ext n k [] := by
  have h := ors_ext n k 0
  rw [Nat.zero_add] at h
  rw [← h]
  simp [ext]
theorem frs_mem {n : Nat} {o : List Nat} {v : Nat} : v ∈ frs n o ↔ v < n ∧ v ∉ o := by
  unfold frs
  rw [List.mem_filter, List.mem_range]
  simp
/-- a list of numbers below n, none twice -/
def Ord (n : Nat) (o : List Nat) : Prop := o.Nodup ∧ ∀ x ∈ o, x < n
theorem Ord.snoc {n : Nat} {o : List Nat} {v : Nat} (h : Ord n o) (hv : v < n) (hn : v ∉ o) : Ord n (o ++ [v]) := by
  refine ⟨?_, fun x hx => ?_⟩
  · rw [List.nodup_append]
    refine ⟨h.1, by simp, ?_⟩
    rintro a ha b hb rfl
    simp at hb
    exact hn (hb ▸ ha)
  · rcases List.mem_append.1 hx with hx | hx
    · exact h.2 x hx
    · simp at hx; omega
theorem ext_ord {n : Nat} : ∀ j (o p : List Nat), Ord n o → p ∈ ext n j o → Ord n p ∧ p.length = o.length + j
  | 0, o, p, h, hp => by
    simp [ext] at hp
    subst hp
    exact ⟨h, rfl⟩
  | j + 1, o, p, h, hp => by
    rw [ext, List.mem_flatMap] at hp
    obtain ⟨v, hv, hp⟩ := hp
    have hv := frs_mem.1 hv
    have := ext_ord j _ p (h.snoc hv.1 hv.2) hp
    refine ⟨this.1, ?_⟩
    rw [this.2]
    simp
    omega
theorem Ord.le : ∀ {n : Nat} {o : List Nat}, Ord n o → o.length ≤ n
  | 0, o, h => by
    cases o with
    | nil => simp
    | cons x r => exact absurd (h.2 x (by simp)) (by omega)
  | n + 1, o, h => by
    have h2 : Ord n (o.erase n) := ⟨h.1.erase n, fun x hx => by
      have h3 := h.2 x (List.mem_of_mem_erase hx)
      have h4 : x ≠ n := ((h.1.mem_erase_iff).1 hx).1
      omega⟩
    have := h2.le
    rw [List.length_erase] at this
    split at this <;> omega
theorem Ord.all {n : Nat} {o : List Nat} (h : Ord n o) (hl : o.length = n) {v : Nat} (hv : v < n) : v ∈ o := by
  by_cases hm : v ∈ o
  · exact hm
  · have := (h.snoc hv hm).le
    simp at this
    omega
/-- the relation whose element i is the element o i of another one -/
def ren (ns o : List Nat) : List Nat := o.map fun x => sqTo (ns.getD x 0) (li o) o.length
theorem ren_length (ns o : List Nat) : (ren ns o).length = o.length := by simp [ren]
/-- the places of the numbers in an order -/
def inpTo (o : List Nat) : Nat → List Nat
  | 0 => List.replicate o.length 0
  | k + 1 => (inpTo o k).set (o.getD k 0) k
theorem inpTo_length (o : List Nat) : ∀ k, (inpTo o k).length = o.length
  | 0 => by simp [inpTo]
  | k + 1 => by rw [inpTo, List.length_set, inpTo_length o k]
theorem inpTo_get {n : Nat} {o : List Nat} (h : Ord n o) (hl : o.length = n) : ∀ k, k ≤ n → ∀ i, i < k → (inpTo o k).getD (o.getD i 0) 0 = i
  | 0, _, i, hi => absurd hi (by omega)
  | k + 1, hk, i, hi => by
    have hx : ∀ j, j < n → o.getD j 0 < n := fun j hj => h.2 _ (getD_mem (by omega))
    rw [inpTo]
    by_cases e : i = k
    · subst e
      have hlt : o.getD i 0 < (inpTo o i).length := by rw [inpTo_length, hl]; exact hx i (by omega)
      rw [List.getD_eq_getElem?_getD, List.getElem?_set_self hlt]
      rfl
    · have hne : o.getD k 0 ≠ o.getD i 0 := by
        have hi2 : i < o.length := by omega
        have hk2 : k < o.length := by omega
        rw [List.getD_eq_getElem?_getD, List.getD_eq_getElem?_getD, List.getElem?_eq_getElem hi2, List.getElem?_eq_getElem hk2]
        intro e2
        exact e ((List.getElem_inj h.1).1 e2.symm)
      have := inpTo_get h hl k (by omega) i (by omega)
      rw [List.getD_eq_getElem?_getD] at this
      rw [List.getD_eq_getElem?_getD, List.getElem?_set_ne hne]
      exact this
def inp (o : List Nat) : List Nat := inpTo o o.length
theorem inp_length (o : List Nat) : (inp o).length = o.length := inpTo_length o _
theorem inp_get {n : Nat} {o : List Nat} (h : Ord n o) (hl : o.length = n) {i : Nat} (hi : i < n) : (inp o).getD (o.getD i 0) 0 = i := inpTo_get h hl _ (by omega) i (by omega)
theorem inp_lt {n : Nat} {o : List Nat} (h : Ord n o) (hl : o.length = n) : ∀ c ∈ inp o, c < n := by
  intro c hc
  obtain ⟨v, hv, rfl⟩ := List.getElem_of_mem hc
  rw [inp_length, hl] at hv
  obtain ⟨i, hi, e⟩ := List.getElem_of_mem (h.all hl hv)
  have h1 := inp_get h hl (i := i) (by omega)
  have h2 : o.getD i 0 = v := by rw [List.getD_eq_getElem?_getD, List.getElem?_eq_getElem hi, Option.getD_some, e]
  rw [h2, List.getD_eq_getElem?_getD, List.getElem?_eq_getElem (by rw [inp_length]; omega), Option.getD_some] at h1
  rw [h1]
  omega
/-- what the program computes of one row -/
theorem img_inp {n : Nat} {o : List Nat} (h : Ord n o) (hl : o.length = n) (m : Nat) : img (pw (inp o)) m = sqTo m (li o) o.length := by
  apply Nat.eq_of_testBit_eq
  intro j
  rw [Bool.eq_iff_iff, img_bit, sqTo_msk, msk_testBit]
  simp only [Bool.and_eq_true, decide_eq_true_eq]
  have hp : ∀ v, v < n → ((pw (inp o)).getD v 0).testBit j = decide ((inp o).getD v 0 = j) := fun v hv => by
    unfold pw
    rw [List.getD_eq_getElem?_getD, List.getElem?_map, List.getD_eq_getElem?_getD, List.getElem?_eq_getElem (by rw [inp_length]; omega)]
    simp [Nat.testBit_two_pow]
  have hg : ∀ j, ((li o).getD j 0).toNat = o.getD j 0 := fun j => by
    simp [li, List.getD_eq_getElem?_getD]
    cases o[j]? <;> simp
  rw [hg]
  have hpl : (pw (inp o)).length = n := by simp [pw, inp_length, hl]
  constructor
  · rintro ⟨v, hv, h1, h2⟩
    rw [hpl] at hv
    obtain ⟨i, hi, e⟩ := List.getElem_of_mem (h.all hl hv)
    have e2 : o.getD i 0 = v := by rw [List.getD_eq_getElem?_getD, List.getElem?_eq_getElem hi, Option.getD_some, e]
    have h3 := inp_get h hl (i := i) (by omega)
    rw [e2] at h3
    have h4 := hp v hv
    rw [h3] at h4
    unfold se at h2
    rw [h4] at h2
    have h5 : i = j := of_decide_eq_true h2
    subst h5
    exact ⟨hi, by rw [e2]; exact h1⟩
  · rintro ⟨hj, h1⟩
    have hx : o.getD j 0 < n := h.2 _ (getD_mem hj)
    refine ⟨o.getD j 0, by rw [hpl]; exact hx, h1, ?_⟩
    unfold se
    rw [hp _ hx, inp_get h hl (by omega)]
    simp
/-- the places of the first j of some numbers, as a mask -/
def fldT (tl : List Nat) (ms : List Int) : Nat → Nat
  | 0 => 0
  | j + 1 => fldT tl ms j ||| 2 ^ tl.getD (ms.getD j 0).toNat 0
theorem fldT_bit (tl : List Nat) (ms : List Int) (b : Nat) : ∀ j, (fldT tl ms j).testBit b = true ↔ ∃ i, i < j ∧ tl.getD (ms.getD i 0).toNat 0 = b
  | 0 => by simp [fldT]
  | j + 1 => by
    rw [fldT, Nat.testBit_or, Bool.or_eq_true, fldT_bit tl ms b j, Nat.testBit_two_pow, decide_eq_true_eq]
    constructor
    · rintro (⟨i, hi, e⟩ | e)
      · exact ⟨i, by omega, e⟩
      · exact ⟨j, by omega, e⟩
    · rintro ⟨i, hi, e⟩
      by_cases h : i = j
      · subst h; exact .inr e
      · exact .inl ⟨i, by omega, e⟩
theorem fldT_lt {tl : List Nat} {n : Nat} (h : ∀ x, tl.getD x 0 < n) (ms : List Int) : ∀ j, fldT tl ms j < 2 ^ n
  | 0 => Nat.pow_pos (by decide)
  | j + 1 => by
    rw [fldT]
    exact Nat.or_lt_two_pow (fldT_lt h ms j) (Nat.pow_lt_pow_right (by decide) (h _))
theorem mems_nat {m x : Nat} (hx : x < 64) : (x : Int) ∈ mems m ↔ m.testBit x = true := by
  unfold mems memsTo
  simp only [List.mem_map, List.mem_filter, List.mem_range]
  constructor
  · rintro ⟨y, ⟨_, h⟩, e⟩
    have : y = x := by omega
    exact this ▸ h
  · exact fun h => ⟨x, ⟨hx, h⟩, rfl⟩
theorem fldT_img {tl : List Nat} {m : Nat} (hl : tl.length ≤ 8) (hm : m < 2 ^ tl.length) : fldT tl (mems m) (mems m).length = img (pw tl) m := by
  apply Nat.eq_of_testBit_eq
  intro b
  rw [Bool.eq_iff_iff, fldT_bit, img_bit]
  have hp : ∀ v, v < tl.length → se (pw tl) v b = decide (tl.getD v 0 = b) := fun v hv => by
    unfold se pw
    rw [List.getD_eq_getElem?_getD, List.getElem?_map, List.getD_eq_getElem?_getD, List.getElem?_eq_getElem hv]
    simp [Nat.testBit_two_pow]
  have hpl : (pw tl).length = tl.length := by simp [pw]
  constructor
  · rintro ⟨i, hi, e⟩
    have hmem : (mems m)[i] ∈ mems m := List.getElem_mem hi
    obtain ⟨x, hx, hxn⟩ := mems_mem hm hmem
    have hg : (mems m).getD i 0 = (x : Int) := by rw [List.getD_eq_getElem?_getD, List.getElem?_eq_getElem hi, Option.getD_some, hx]
    rw [hg, Int.toNat_natCast] at e
    rw [hx] at hmem
    refine ⟨x, by rw [hpl]; exact hxn, (mems_nat (by omega)).1 hmem, ?_⟩
    rw [hp x hxn]
    exact decide_eq_true e
  · rintro ⟨v, hv, h1, h2⟩
    rw [hpl] at hv
    rw [hp v hv] at h2
    obtain ⟨i, hi, e⟩ := List.getElem_of_mem ((mems_nat (by omega)).2 h1)
    refine ⟨i, hi, ?_⟩
    rw [List.getD_eq_getElem?_getD (l := mems m), List.getElem?_eq_getElem hi, Option.getD_some, e, Int.toNat_natCast]
    exact of_decide_eq_true h2
/-- the rows renumbered so far -/
def rwo (ns o : List Nat) : Nat → List Nat
  | 0 => List.replicate o.length 0
  | i + 1 => (rwo ns o i).set i (img (pw (inp o)) (ns.getD (o.getD i 0) 0))
theorem rwo_length (ns o : List Nat) : ∀ i, (rwo ns o i).length = o.length
  | 0 => by simp [rwo]
  | i + 1 => by rw [rwo, List.length_set, rwo_length ns o i]
theorem rwo_get (ns o : List Nat) : ∀ i, i ≤ o.length → ∀ x, (rwo ns o i).getD x 0 = if x < i then img (pw (inp o)) (ns.getD (o.getD x 0) 0) else 0
  | 0, _, x => by
    rw [if_neg (by omega), rwo, List.getD_eq_getElem?_getD, List.getElem?_replicate]
    split <;> rfl
  | i + 1, hi, x => by
    rw [rwo, getD_set, rwo_length]
    by_cases hx : i = x
    · subst hx
      rw [if_pos ⟨rfl, by omega⟩, if_pos (by omega)]
    · rw [if_neg (fun h => hx h.1), rwo_get ns o i (by omega) x]
      by_cases h2 : x < i
      · rw [if_pos h2, if_pos (by omega)]
      · rw [if_neg h2, if_neg (by omega)]
theorem rwo_all {n : Nat} (ns o : List Nat) (h : Ord n o) (hl : o.length = n) : rwo ns o o.length = ren ns o := by
  apply List.ext_getElem (by rw [rwo_length, ren_length])
  intro i h1 h2
  rw [rwo_length] at h1
  have := rwo_get ns o o.length (Nat.le_refl _) i
  rw [if_pos h1, List.getD_eq_getElem?_getD, List.getElem?_eq_getElem (by rw [rwo_length]; exact h1), Option.getD_some] at this
  rw [this, img_inp h hl]
  have e : (ren ns o)[i] = sqTo (ns.getD o[i] 0) (li o) o.length := List.getElem_map ..
  rw [e, List.getD_eq_getElem?_getD (l := o), List.getElem?_eq_getElem h1, Option.getD_some]
/-- one step of the search for the least renumbering -/
def lstep (ns b o : List Nat) : List Nat := if cml (ren ns o) b < 0 then ren ns o else b
def lst (ns : List Nat) : List Nat := (ext ns.length ns.length []).foldl (lstep ns) ns
theorem lst_fold_length (ns : List Nat) : ∀ (L : List (List Nat)) (b : List Nat), b.length = ns.length → (∀ o ∈ L, o.length = ns.length) → (L.foldl (lstep ns) b).length = ns.length
  | [], b, hb, _ => hb
  | o :: L, b, hb, h => by
    rw [List.foldl_cons]
    refine lst_fold_length ns L _ ?_ (fun p hp => h p (by simp [hp]))
    unfold lstep
    split
    · rw [ren_length]; exact h o (by simp)
    · exact hb
theorem lst_length (ns : List Nat) : (lst ns).length = ns.length :=
  lst_fold_length ns _ _ rfl fun o ho => by
    have := (ext_ord ns.length [] o ⟨by simp, by simp⟩ ho).2
    simpa using this
theorem ren_lt (ns o : List Nat) : ∀ x ∈ ren ns o, x < 2 ^ o.length := by
  intro x hx
  unfold ren at hx
  obtain ⟨y, _, rfl⟩ := List.mem_map.1 hx
  exact sqTo_lt _ _ _
theorem lst_fold_lt (ns : List Nat) : ∀ (L : List (List Nat)) (b : List Nat), (∀ x ∈ b, x < 2 ^ ns.length) → (∀ o ∈ L, o.length = ns.length) → ∀ x ∈ L.foldl (lstep ns) b, x < 2 ^ ns.length
  | [], b, hb, _ => hb
  | o :: L, b, hb, h => by
    rw [List.foldl_cons]
    refine lst_fold_lt ns L _ ?_ (fun p hp => h p (by simp [hp]))
    unfold lstep
    split
    · have := ren_lt ns o
      rw [h o (by simp)] at this
      exact this
    · exact hb
theorem lst_rel {ns : List Nat} (h : RelN ns) : RelN (lst ns) := by
  refine ⟨by rw [lst_length]; exact h.1, ?_⟩
  rw [lst_length]
  exact lst_fold_lt ns _ _ h.2 fun o ho => by
    have := (ext_ord ns.length [] o ⟨by simp, by simp⟩ ho).2
    simpa using this
theorem cml_anti : ∀ a b : List Nat, cml b a = - cml a b
  | [], [] => rfl
  | [], _ :: _ => rfl
  | _ :: _, [] => rfl
  | x :: a, y :: b => by
    rw [cml, cml, cml_anti a b]
    split <;> split <;> first | omega | (split <;> omega)
theorem cml_zero : ∀ {a b : List Nat}, cml a b = 0 → a = b
  | [], [], _ => rfl
  | [], _ :: _, h => absurd (show (-1 : Int) = 0 from h) (by decide)
  | _ :: _, [], h => absurd (show (1 : Int) = 0 from h) (by decide)
  | x :: a, y :: b, h => by
    rw [cml] at h
    split at h
    · exact absurd h (by decide)
    · split at h
      · exact absurd h (by decide)
      · have e : x = y := by omega
        rw [e, cml_zero h]
theorem cml_trans : ∀ {a b c : List Nat}, cml a b < 0 → cml b c < 0 → cml a c < 0
  | [], [], _, h, _ => absurd (show (0 : Int) < 0 from h) (by decide)
  | [], _ :: _, [], _, h => absurd (show (1 : Int) < 0 from h) (by decide)
  | [], _ :: _, _ :: _, _, _ => (by decide : (-1 : Int) < 0)
  | _ :: _, [], _, h, _ => absurd (show (1 : Int) < 0 from h) (by decide)
  | _ :: _, _ :: _, [], _, h => absurd (show (1 : Int) < 0 from h) (by decide)
  | x :: a, y :: b, z :: c, h, h' => by
    rw [cml] at h h' ⊢
    by_cases h1 : x < y
    · by_cases h2 : y < z
      · rw [if_pos (by omega)]; decide
      · rw [if_neg h2] at h'
        by_cases h3 : z < y
        · rw [if_pos h3] at h'; exact absurd h' (by decide)
        · rw [if_pos (by omega)]; decide
    · rw [if_neg h1] at h
      by_cases h3 : y < x
      · rw [if_pos h3] at h; exact absurd h (by decide)
      · rw [if_neg h3] at h
        by_cases h2 : y < z
        · rw [if_pos (by omega)]; decide
        · rw [if_neg h2] at h'
          by_cases h4 : z < y
          · rw [if_pos h4] at h'; exact absurd h' (by decide)
          · rw [if_neg h4] at h'
            rw [if_neg (by omega), if_neg (by omega)]
            exact cml_trans h h'
/-- the order of frames: by the number of worlds, then by the arrows -/
def cmf (a b : List Nat) : Int := cml (a.length :: a) (b.length :: b)
theorem cmf_anti (a b : List Nat) : cmf b a = - cmf a b := cml_anti _ _
theorem cmf_zero {a b : List Nat} (h : cmf a b = 0) : a = b := by
  have := cml_zero h
  injection this
theorem cmf_trans {a b c : List Nat} (h : cmf a b < 0) (h' : cmf b c < 0) : cmf a c < 0 := cml_trans h h'
theorem cmf_refl (a : List Nat) : cmf a a = 0 := cml_refl _
def asc (L : List (List Nat)) : Prop := L.Pairwise fun a b => cmf a b < 0
theorem asc_unique : ∀ {L M : List (List Nat)}, asc L → asc M → (∀ x, x ∈ L ↔ x ∈ M) → L = M
  | [], [], _, _, _ => rfl
  | [], y :: M, _, _, h => absurd ((h y).2 (by simp)) (by simp)
  | x :: L, [], _, _, h => absurd ((h x).1 (by simp)) (by simp)
  | x :: L, y :: M, hL, hM, h => by
    have h1 := List.pairwise_cons.1 hL
    have h2 := List.pairwise_cons.1 hM
    have e : x = y := by
      rcases List.mem_cons.1 ((h x).1 (by simp)) with e | hx
      · exact e
      · rcases List.mem_cons.1 ((h y).2 (by simp)) with e | hy
        · exact e.symm
        · have a := h1.1 y hy
          have b := h2.1 x hx
          rw [cmf_anti] at b
          omega
    subst e
    congr 1
    refine asc_unique h1.2 h2.2 fun z => ?_
    constructor
    · intro hz
      rcases List.mem_cons.1 ((h z).1 (by simp [hz])) with e | hz2
      · have := h1.1 z hz
        rw [e, cmf_refl] at this
        omega
      · exact hz2
    · intro hz
      rcases List.mem_cons.1 ((h z).2 (by simp [hz])) with e | hz2
      · have := h2.1 z hz
        rw [e, cmf_refl] at this
        omega
      · exact hz2
/-- a frame put into an ascending list where it is lacking -/
def insF (q : List Nat) : List (List Nat) → List (List Nat)
  | [] => [q]
  | x :: r => if cmf x q < 0 then x :: insF q r else if cmf q x < 0 then q :: x :: r else x :: r
theorem insF_mem (q : List Nat) : ∀ (L : List (List Nat)) x, x ∈ insF q L ↔ x = q ∨ x ∈ L
  | [], x => by simp [insF]
  | y :: r, x => by
    rw [insF]
    split
    · rw [List.mem_cons, insF_mem q r x, List.mem_cons]
      constructor
      · rintro (h | h | h) <;> simp [h]
      · rintro (h | h | h) <;> simp [h]
    · split
      · simp
      · rename_i h1 h2
        have e : cmf y q = 0 := by rw [cmf_anti] at h2; omega
        have e2 := cmf_zero e
        subst e2
        simp
theorem insF_asc (q : List Nat) : ∀ (L : List (List Nat)), asc L → asc (insF q L)
  | [], _ => by simp [insF, asc]
  | y :: r, h => by
    have h1 := List.pairwise_cons.1 h
    rw [insF]
    split
    · rename_i hlt
      refine List.pairwise_cons.2 ⟨fun x hx => ?_, insF_asc q r h1.2⟩
      rcases (insF_mem q r x).1 hx with e | hx
      · rw [e]; exact hlt
      · exact h1.1 x hx
    · split
      · rename_i hlt
        refine List.pairwise_cons.2 ⟨fun x hx => ?_, h⟩
        rcases List.mem_cons.1 hx with e | hx
        · rw [e]; exact hlt
        · exact cmf_trans hlt (h1.1 x hx)
      · exact h
def insAll (L : List (List Nat)) : List (List Nat) := L.foldl (fun o q => insF q o) []
theorem insAll_fold : ∀ (L o : List (List Nat)), asc o → asc (L.foldl (fun o q => insF q o) o) ∧ ∀ x, x ∈ L.foldl (fun o q => insF q o) o ↔ x ∈ L ∨ x ∈ o
  | [], o, h => ⟨h, fun x => by simp⟩
  | q :: L, o, h => by
    have := insAll_fold L (insF q o) (insF_asc q o h)
    refine ⟨this.1, fun x => ?_⟩
    rw [List.foldl_cons, this.2 x, insF_mem]
    constructor
    · rintro (h | h | h) <;> simp [h]
    · rintro (h | h)
      · rcases List.mem_cons.1 h with h | h <;> simp [h]
      · simp [h]
theorem insAll_asc (L : List (List Nat)) : asc (insAll L) := (insAll_fold L [] (by simp [asc])).1
theorem insAll_mem (L : List (List Nat)) (x) : x ∈ insAll L ↔ x ∈ L := by
  have := (insAll_fold L [] (by simp [asc])).2 x
  simpa [insAll] using this
/-- a list without those that are like the one before -/
def ddp (L : List (List Nat)) : Nat → List (List Nat)
  | 0 => []
  | k + 1 => if k = 0 ∨ cmf (L.getD (k - 1) []) (L.getD k []) ≠ 0 then ddp L k ++ [L.getD k []] else ddp L k
theorem ddp_all (L : List (List Nat)) (hs : ∀ i j, i < j → j < L.length → ¬ cmf (L.getD j []) (L.getD i []) < 0) : ∀ k, k ≤ L.length → asc (ddp L k) ∧ (∀ x, x ∈ ddp L k ↔ ∃ i, i < k ∧ L.getD i [] = x)
  | 0, _ => ⟨by simp [ddp, asc], fun x => by simp [ddp]⟩
  | k + 1, hk => by
    have ih := ddp_all L hs k (by omega)
    rw [ddp]
    have hmem : ∀ x, (∃ i, i < k + 1 ∧ L.getD i [] = x) ↔ (∃ i, i < k ∧ L.getD i [] = x) ∨ L.getD k [] = x := fun x => by
      constructor
      · rintro ⟨i, hi, e⟩
        by_cases h : i = k
        · subst h; exact .inr e
        · exact .inl ⟨i, by omega, e⟩
      · rintro (⟨i, hi, e⟩ | e)
        · exact ⟨i, by omega, e⟩
        · exact ⟨k, by omega, e⟩
    by_cases hc : k = 0 ∨ cmf (L.getD (k - 1) []) (L.getD k []) ≠ 0
    · rw [if_pos hc]
      refine ⟨?_, fun x => by rw [List.mem_append, ih.2 x, hmem x]; simp [eq_comm]⟩
      refine List.pairwise_append.2 ⟨ih.1, by simp, fun a ha b hb => ?_⟩
      simp at hb
      subst hb
      obtain ⟨i, hi, rfl⟩ := (ih.2 a).1 ha
      rcases hc with hc | hc
      · omega
      · have h1 := hs (k - 1) k (by omega) (by omega)
        have e1 := cmf_anti (L.getD (k - 1) []) (L.getD k [])
        have h3 : cmf (L.getD (k - 1) []) (L.getD k []) < 0 := by omega
        by_cases hik : i = k - 1
        · subst hik; simpa using h3
        · have h4 := hs i (k - 1) (by omega) (by omega)
          have e2 := cmf_anti (L.getD i []) (L.getD (k - 1) [])
          by_cases h5 : cmf (L.getD i []) (L.getD (k - 1) []) = 0
          · rw [cmf_zero h5]; simpa using h3
          · simpa using cmf_trans (by omega : cmf (L.getD i []) (L.getD (k - 1) []) < 0) h3
    · rw [if_neg hc]
      refine ⟨ih.1, fun x => ?_⟩
      rw [ih.2 x, hmem x]
      constructor
      · exact .inl
      · rintro (h | h)
        · exact h
        · have hk0 : k ≠ 0 := fun e => hc (.inl e)
          have hz : cmf (L.getD (k - 1) []) (L.getD k []) = 0 := by
            by_cases h0 : cmf (L.getD (k - 1) []) (L.getD k []) = 0
            · exact h0
            · exact absurd (.inr h0) hc
          exact ⟨k - 1, by omega, by rw [cmf_zero hz]; exact h⟩
/-- the sorted list without doubles is the list that insertion makes -/
theorem ddp_ins (S L : List (List Nat)) (hp : S.Perm L) (hs : ∀ i j, i < j → j < S.length → ¬ cmf (S.getD j []) (S.getD i []) < 0) : ddp S S.length = insAll L := by
  have h := ddp_all S hs S.length (Nat.le_refl _)
  refine asc_unique h.1 (insAll_asc L) fun x => ?_
  rw [h.2 x, insAll_mem, ← hp.mem_iff]
  constructor
  · rintro ⟨i, hi, e⟩
    rw [List.getD_eq_getElem?_getD, List.getElem?_eq_getElem hi, Option.getD_some] at e
    rw [← e]
    exact List.getElem_mem hi
  · intro hx
    obtain ⟨i, hi, e⟩ := List.getElem_of_mem hx
    exact ⟨i, hi, by rw [List.getD_eq_getElem?_getD, List.getElem?_eq_getElem hi, Option.getD_some, e]⟩
/-- the rooted parts of an order, in their least forms -/
def rpt (ns : List Nat) : List (List Nat) := insAll ((List.range ns.length).map fun x => lst (ptr ns (ns.getD x 0)))
end Go.Proofs.YtkdldfomdbgcaaaGreat

/- Plain law of the meet of Traces: what the program computes is what the reference lists. No program in sight. -/
import Derived.Test.YtcikenffeekkeaaGreatDoorY07
import Derived.Lib.SlicesCompact
namespace Go.Proofs.YtcikenffeekkeaaGreatDoor
set_option linter.unusedVariables false
theorem okT_good {xs : List Int} (h : okT xs = true) (i : Nat) (hi : i < xs.length) : 0 ≤ xs[i] ∧ xs[i] ≤ 60 ∧ ∀ j (hj : j < i), xs[j]'(by omega) < xs[i] := by
  have hall : ∀ i < xs.length, goodT xs i = true := fun i hi => List.all_eq_true.1 h i (List.mem_range.2 hi)
  have hb : ∀ i (hi : i < xs.length), 0 ≤ xs[i] ∧ xs[i] ≤ 60 := fun i hi => by
    have := hall i hi
    simp only [goodT, Bool.and_eq_true] at this
    have h1 := inR_iff.1 this.1
    simpa [List.getD_eq_getElem?_getD, hi] using h1
  have hs : ∀ i (hi : i + 1 < xs.length), xs[i] < xs[i + 1] := fun i hi => by
    have := hall (i + 1) hi
    rw [goodT_succ hi] at this
    simp only [Bool.and_eq_true, decide_eq_true_eq] at this
    exact this.2
  have hlt : ∀ d j (hj : j + d + 1 < xs.length), xs[j] < xs[j + d + 1] := by
    intro d
    induction d with
    | zero => intro j hj; exact hs j hj
    | succ d ih =>
      intro j hj
      exact Int.lt_trans (ih j (by omega)) (hs (j + d + 1) (by omega))
  refine ⟨(hb i hi).1, (hb i hi).2, fun j hj => ?_⟩
  have := hlt (i - j - 1) j (by omega)
  have e : j + (i - j - 1) + 1 = i := by omega
  simpa only [e] using this
theorem okT_pw {xs : List Int} (h : okT xs = true) : xs.Pairwise (· < ·) :=
  List.pairwise_iff_getElem.2 fun i j hi hj hij => (okT_good h j hj).2.2 i hij
theorem okT_rng {xs : List Int} (h : okT xs = true) {x : Int} (hx : x ∈ xs) : 0 ≤ x ∧ x ≤ 60 := by
  obtain ⟨i, hi, rfl⟩ := List.mem_iff_getElem.1 hx
  exact ⟨(okT_good h i hi).1, (okT_good h i hi).2.1⟩
/-- two ascending lists of the same members are one -/
theorem asc_eq : ∀ (xs ys : List Int), xs.Pairwise (· < ·) → ys.Pairwise (· < ·) → (∀ a, a ∈ xs ↔ a ∈ ys) → xs = ys
  | [], [], _, _, _ => rfl
  | [], y :: ys, _, _, h => absurd ((h y).2 List.mem_cons_self) (by simp)
  | x :: xs, [], _, _, h => absurd ((h x).1 List.mem_cons_self) (by simp)
  | x :: xs, y :: ys, hx, hy, h => by
    obtain ⟨hx1, hx2⟩ := List.pairwise_cons.1 hx
    obtain ⟨hy1, hy2⟩ := List.pairwise_cons.1 hy
    have e : x = y := by
      rcases List.mem_cons.1 ((h x).1 List.mem_cons_self) with h1 | h1
      · exact h1
      · rcases List.mem_cons.1 ((h y).2 List.mem_cons_self) with h2 | h2
        · exact h2.symm
        · have := hx1 y h2; have := hy1 x h1; omega
    subst e
    rw [asc_eq xs ys hx2 hy2 fun a => ?_]
    constructor
    · intro ha
      rcases List.mem_cons.1 ((h a).1 (List.mem_cons_of_mem _ ha)) with h1 | h1
      · have := hx1 a ha; omega
      · exact h1
    · intro ha
      rcases List.mem_cons.1 ((h a).2 (List.mem_cons_of_mem _ ha)) with h1 | h1
      · have := hy1 a ha; omega
      · exact h1
def rng61 : List Int := (List.range 61).map fun (n : Nat) => (n : Int)
theorem mem_rng61 {x : Int} : x ∈ rng61 ↔ 0 ≤ x ∧ x ≤ 60 := by
  unfold rng61
  rw [List.mem_map]
  constructor
  · rintro ⟨n, hn, rfl⟩
    have := List.mem_range.1 hn
    omega
  · rintro ⟨h1, h2⟩
    exact ⟨x.toNat, List.mem_range.2 (by omega), by omega⟩
theorem rng61_asc : rng61.Pairwise (· < ·) := by
  unfold rng61
  rw [List.pairwise_map]
  exact List.pairwise_lt_range.imp fun h => by omega
/-- does rank n belong to both -/
def mtB (bt : Bool) (xs : List Int) (bu : Bool) (ys : List Int) (n : Int) : Bool := ((decide (n ∈ xs) == bt) && (decide (n ∈ ys) == bu)) == (bt || bu)
def mtR (bt : Bool) (xs : List Int) (bu : Bool) (ys : List Int) : List Int := rng61.filter (mtB bt xs bu ys)
def shr (xs ys : List Int) (want : Bool) : List Int := xs.filter fun n => !(decide (n ∈ ys) != want)
theorem mt_true {xs ys : List Int} (bu : Bool) (h : okT xs = true) : shr xs ys bu = mtR true xs bu ys := by
  refine asc_eq _ _ ((okT_pw h).filter _) (rng61_asc.filter _) fun a => ?_
  unfold shr mtR mtB
  rw [List.mem_filter, List.mem_filter, mem_rng61]
  constructor
  · rintro ⟨h1, h2⟩
    refine ⟨okT_rng h h1, ?_⟩
    cases bu <;> by_cases h3 : a ∈ ys <;> simp_all
  · rintro ⟨h1, h2⟩
    cases bu <;> by_cases h3 : a ∈ ys <;> by_cases h4 : a ∈ xs <;> simp_all
theorem mt_false {xs ys : List Int} (h : okT ys = true) : shr ys xs false = mtR false xs true ys := by
  refine asc_eq _ _ ((okT_pw h).filter _) (rng61_asc.filter _) fun a => ?_
  unfold shr mtR mtB
  rw [List.mem_filter, List.mem_filter, mem_rng61]
  constructor
  · rintro ⟨h1, h2⟩
    refine ⟨okT_rng h h1, ?_⟩
    by_cases h3 : a ∈ xs <;> simp_all
  · rintro ⟨h1, h2⟩
    by_cases h3 : a ∈ ys <;> by_cases h4 : a ∈ xs <;> simp_all
theorem sorted_le (l : List Int) : (l.mergeSort fun x y => decide (x ≤ y)).Pairwise (· ≤ ·) := by
  have := List.pairwise_mergeSort (le := fun x y : Int => decide (x ≤ y)) (fun a b c h1 h2 => by simp only [decide_eq_true_eq] at *; omega) (fun a b => by simp only [Bool.or_eq_true, decide_eq_true_eq]; omega) l
  exact this.imp fun h => by simpa using h
/-- of an ascending list with repetitions, each once -/
theorem compact_asc (s : List Int) (h : s.Pairwise (· ≤ ·)) : ∀ m, m ≤ s.length → (Lib.compactUpTo s.toArray m).Pairwise (· < ·) ∧ (∀ a, a ∈ Lib.compactUpTo s.toArray m ↔ a ∈ s.take m) := by
  intro m
  have hle : ∀ i j (hi : i < s.length) (hj : j < s.length), i ≤ j → s[i] ≤ s[j] := fun i j hi hj hij => by
    rcases Nat.lt_or_eq_of_le hij with h1 | h1
    · exact List.pairwise_iff_getElem.1 h i j hi hj h1
    · subst h1; exact Int.le_refl _
  induction m with
  | zero => intro _; simp [Lib.compactUpTo]
  | succ m ih =>
    intro hm
    obtain ⟨h1, h2⟩ := ih (by omega)
    have hg : ∀ i, i < s.length → s.toArray[i]! = s[i]! := fun i hi => by simp
    have hmem : ∀ a, a ∈ s.take (m + 1) ↔ a ∈ s.take m ∨ a = s[m] := fun a => by
      rw [List.take_succ_eq_append_getElem (by omega), List.mem_append, List.mem_singleton]
    have e : s.toArray[m]! = s[m] := by simp [show m < s.length by omega]
    rw [Lib.compactUpTo_succ]
    by_cases hk : Lib.keeps s.toArray m = true
    · rw [if_pos hk, e]
      refine ⟨List.pairwise_append.2 ⟨h1, List.pairwise_singleton _ _, fun a ha b hb => ?_⟩, fun a => ?_⟩
      · have hb' : b = s[m] := by simpa using hb
        subst hb'
        obtain ⟨i, hi, rfl⟩ := List.mem_iff_getElem.1 ((h2 a).1 ha)
        simp only [List.length_take] at hi
        rw [List.getElem_take]
        have hmp : 0 < m := by omega
        simp only [Lib.keeps, decide_eq_true_eq] at hk
        rcases hk with hk | hk
        · omega
        · have e1 : s.toArray[m - 1]! = s[m - 1] := by simp [show m - 1 < s.length by omega]
          rw [e, e1] at hk
          have a1 := hle i (m - 1) (by omega) (by omega) (by omega)
          have a2 := hle (m - 1) m (by omega) (by omega) (by omega)
          omega
      · rw [List.mem_append, h2, hmem, List.mem_singleton]
    · rw [if_neg hk, List.append_nil]
      refine ⟨h1, fun a => ?_⟩
      rw [h2, hmem]
      constructor
      · exact .inl
      · rintro (ha | ha)
        · exact ha
        · have hk' : ¬ (m = 0 ∨ s.toArray[m]! ≠ s.toArray[m - 1]!) := by simpa [Lib.keeps] using hk
          have hm0 : ¬ m = 0 := fun e => hk' (.inl e)
          have e1 : s.toArray[m - 1]! = s[m - 1] := by simp [show m - 1 < s.length by omega]
          have e2 : s[m] = s[m - 1] := by
            have := Classical.not_not.1 fun hne => hk' (.inr hne)
            rw [e, e1] at this
            exact this
          rw [ha, e2, List.mem_iff_getElem]
          exact ⟨m - 1, by simp; omega, by rw [List.getElem_take]⟩
def cmt (xs ys : List Int) : List Int := Lib.compactUpTo ((xs ++ ys).mergeSort fun x y => decide (x ≤ y)).toArray (xs ++ ys).length
theorem mt_none {xs ys : List Int} (h : okT xs = true) (h' : okT ys = true) : cmt xs ys = mtR false xs false ys := by
  have hl : ((xs ++ ys).mergeSort fun x y => decide (x ≤ y)).length = (xs ++ ys).length := List.length_mergeSort _
  obtain ⟨h1, h2⟩ := compact_asc _ (sorted_le (xs ++ ys)) (xs ++ ys).length (by rw [hl]; exact Nat.le_refl _)
  refine asc_eq _ _ h1 (rng61_asc.filter _) fun a => ?_
  unfold cmt
  rw [h2, List.take_of_length_le (by rw [hl]; exact Nat.le_refl _), List.mem_mergeSort, List.mem_append]
  unfold mtR mtB
  rw [List.mem_filter, mem_rng61]
  constructor
  · rintro (h3 | h3)
    · exact ⟨okT_rng h h3, by simp [h3]⟩
    · exact ⟨okT_rng h' h3, by simp [h3]⟩
  · rintro ⟨h3, h4⟩
    by_cases h5 : a ∈ xs <;> by_cases h6 : a ∈ ys <;> simp_all
theorem okT_len {xs : List Int} (h : okT xs = true) : xs.length ≤ 61 := by
  have : xs = rng61.filter fun n => decide (n ∈ xs) := asc_eq _ _ (okT_pw h) (rng61_asc.filter _) fun a => by
    rw [List.mem_filter, mem_rng61]
    exact ⟨fun ha => ⟨okT_rng h ha, by simpa using ha⟩, fun ha => by simpa using ha.2⟩
  rw [this]
  have h61 : rng61.length = 61 := by simp [rng61]
  rw [← h61]
  exact List.length_filter_le _ _
theorem mtR_len (bt : Bool) (xs : List Int) (bu : Bool) (ys : List Int) : (mtR bt xs bu ys).length ≤ 61 := by
  have h61 : rng61.length = 61 := by simp [rng61]
  rw [← h61]
  exact List.length_filter_le _ _
end Go.Proofs.YtcikenffeekkeaaGreatDoor

/- Joined of several texts. -/
import Derived.Test.YtcikenffeekkeaaGreatDoorY05
import Derived.Test.YtcikenffeekkeaaGreatDoorY02
namespace Go.Proofs.YtcikenffeekkeaaGreatDoor
/- Joined of several texts: 32n, 32o, 32p, 32q, 32u. -/
open Go.RowKit
set_option linter.unusedVariables false
set_option linter.unusedSimpArgs false
/- Contracts of chapter 32: the Trace of a row and of a mask. -/
/-- the ranks below k of a Trace whose truth values are p -/
def trTo (p : Nat → Bool) (k : Nat) : List Int := ((List.range k).filter fun n => p n == !p 60).map fun (n : Nat) => (n : Int)
def trOf (p : Nat → Bool) : List Int := trTo p 61
theorem trTo_succ (p : Nat → Bool) (k : Nat) : trTo p (k + 1) = trTo p k ++ if (p k == !p 60) = true then [(k : Int)] else [] := by
  unfold trTo
  rw [List.range_succ, List.filter_append, List.map_append]
  congr 1
  cases h : (p k == !p 60) <;> simp [h]
theorem trTo_length (p : Nat → Bool) (k : Nat) : (trTo p k).length ≤ k := by
  unfold trTo
  rw [List.length_map]
  exact Nat.le_trans (List.length_filter_le _ _) (by simp)
/- Contracts of chapter 32: the Trace of a mask, of the program. -/
theorem testBit_val (m i : Nat) (hm : m < 9223372036854775808) : bits .and .i64 ((m : Int) / 2 ^ i) 1 = if m.testBit i then 1 else 0 := by
  have h := i64_and_nat (m / 2 ^ i) 1 (Nat.lt_of_le_of_lt (Nat.div_le_self _ _) hm) (by decide)
  rw [div_cast]
  have h2 : ((1 : Nat) : Int) = 1 := rfl
  rw [h2] at h
  rw [h, Nat.and_one_is_mod, Nat.testBit_eq_decide_div_mod_eq]
  have := Nat.mod_lt (m / 2 ^ i) (show 0 < 2 by decide)
  by_cases hq : m / 2 ^ i % 2 = 1
  · rw [hq]; simp
  · rw [show m / 2 ^ i % 2 = 0 by omega]; simp
/- Contracts of TraceOf, of the program and of the reference. -/
theorem row_map (f : Fm) : row f = (List.range 61).map (rk f 0) := rfl
/- Contracts of IsLetterlessTheorem, IsTrueSentence, FirstFalseRank and AreLetterlessEqual, of the program and of the reference. -/
/-- is it true at all ranks? -/
def allR (p : Nat → Bool) : Bool := (List.range 61).all p
theorem allR_msk (p : Nat → Bool) : (((msk p 61 : Nat) : Int) == 2305843009213693951) = allR p := by
  have h1 : allR p = true ↔ msk p 61 = 2305843009213693951 := by
    rw [allR, List.all_eq_true]
    constructor
    · intro h
      refine msk_ext 61 (msk_lt _ _) (by decide) fun i hi => ?_
      rw [msk_testBit, all_testBit i hi, h i (List.mem_range.2 hi), decide_eq_true hi]
      rfl
    · intro h i hi
      have hi' := List.mem_range.1 hi
      have := all_testBit i hi'
      rw [← h, msk_testBit] at this
      simp at this
      exact this.2
  rw [Bool.eq_iff_iff, beq_iff_eq, h1]
  omega
theorem allR_tr (p : Nat → Bool) : (!(!p 60) && decide ((trOf p).length = 0)) = allR p := by
  rw [Bool.eq_iff_iff, allR, List.all_eq_true]
  have hl : (trOf p).length = 0 ↔ ∀ n < 61, (p n == !p 60) = false := by
    unfold trOf trTo
    rw [List.length_map]
    constructor
    · intro h n hn
      have h2 := List.eq_nil_of_length_eq_zero h
      rw [List.filter_eq_nil_iff] at h2
      have := h2 n (List.mem_range.2 hn)
      simpa using this
    · intro h
      rw [List.filter_eq_nil_iff.2 (fun n hn => by rw [h n (List.mem_range.1 hn)]; simp)]
      rfl
  simp only [Bool.not_not, Bool.and_eq_true, decide_eq_true_eq, hl]
  constructor
  · rintro ⟨h1, h2⟩ n hn
    have := h2 n (List.mem_range.1 hn)
    rw [h1] at this
    cases hp : p n
    · rw [hp] at this; simp at this
    · rfl
  · intro h
    have h60 := h 60 (by simp)
    refine ⟨h60, fun n hn => ?_⟩
    rw [h60, h n (List.mem_range.2 hn)]
    rfl
/-- are two formulas true at the same ranks? -/
def alike (p q : Nat → Bool) : Bool := (List.range 61).all fun n => p n == q n
theorem alike_iff (p q : Nat → Bool) : alike p q = true ↔ ∀ n < 61, p n = q n := by
  unfold alike
  rw [List.all_eq_true]
  constructor
  · intro h n hn; simpa using h n (List.mem_range.2 hn)
  · intro h n hn; simpa using h n (List.mem_range.1 hn)
theorem alike_msk (p q : Nat → Bool) : (((msk p 61 : Nat) : Int) == (msk q 61 : Nat)) = alike p q := by
  rw [Bool.eq_iff_iff, beq_iff_eq, alike_iff]
  constructor
  · intro h n hn
    have h1 : msk p 61 = msk q 61 := by omega
    have := congrArg (fun m => m.testBit n) h1
    simpa [msk_testBit, hn] using this
  · intro h
    rw [msk_congr p q 61 h]
/-- the first rank that does not belong to a Trace, or -1 -/
def ffL : List Int → Int → Int
  | [], i => i
  | x :: t, i => if x = i then ffL t (i + 1) else i
def ffT (fin : Bool) (xs : List Int) : Int := if fin then ffL xs 0 else xs.headD (-1)
def ffI (p : Nat → Bool) : Int := match (List.range 61).find? fun n => !p n with | some n => (n : Int) | none => -1
theorem ffL_range (p : Nat → Bool) (m : Nat) : ∀ k : Nat, ffL (((List.range' k m).filter p).map fun (n : Nat) => (n : Int)) k = match (List.range' k m).find? fun n => !p n with | some n => (n : Int) | none => ((k + m : Nat) : Int) := by
  induction m with
  | zero => intro k; simp [ffL]
  | succ m ih =>
    intro k
    rw [List.range'_succ, List.filter_cons, List.find?_cons]
    cases hp : p k
    · simp only [Bool.false_eq_true, if_false, Bool.not_false]
      cases hf : (List.range' (k + 1) m).filter p with
      | nil => rfl
      | cons x t =>
        have hx : x ∈ (List.range' (k + 1) m).filter p := by rw [hf]; exact List.mem_cons_self
        have := (List.mem_range'_1.1 (List.mem_filter.1 hx).1).1
        simp only [List.map_cons, ffL]
        rw [if_neg (by omega)]
    · simp only [if_true, List.map_cons, ffL, Bool.not_true]
      have := ih (k + 1)
      rw [show ((k : Int) + 1) = ((k + 1 : Nat) : Int) from by omega, this]
      cases (List.range' (k + 1) m).find? fun n => !p n with
      | none => simp; omega
      | some n => rfl
theorem ff_tr (p : Nat → Bool) : ffT (!p 60) (trOf p) = ffI p := by
  unfold ffT ffI trOf trTo
  cases hp : p 60
  · simp only [Bool.not_false, if_true]
    have h1 := ffL_range p 61 0
    rw [← List.range_eq_range'] at h1
    have e : ((List.range 61).filter fun n => p n == true) = (List.range 61).filter p := by congr 1; funext n; cases p n <;> rfl
    rw [e]
    rw [show ((0 : Nat) : Int) = 0 from rfl] at h1
    rw [h1]
    cases hf : (List.range 61).find? fun n => !p n with
    | some n => rfl
    | none =>
      rw [List.find?_eq_none] at hf
      have := hf 60 (by simp)
      rw [hp] at this
      simp at this
  · simp only [Bool.not_true, Bool.false_eq_true, if_false]
    have e : ((List.range 61).filter fun n => p n == false) = (List.range 61).filter fun n => !p n := by congr 1; funext n; cases p n <;> rfl
    rw [e]
    have h1 : ((List.range 61).filter fun n => !p n).head? = (List.range 61).find? fun n => !p n := List.head?_filter
    cases hf : (List.range 61).filter fun n => !p n with
    | nil => rw [hf] at h1; simp at h1; rw [← h1]; rfl
    | cons x t => rw [hf] at h1; simp only [List.head?_cons] at h1; rw [← h1]; rfl
theorem ffI_range (p : Nat → Bool) : -1 ≤ ffI p ∧ ffI p ≤ 60 := by
  unfold ffI
  cases hf : (List.range 61).find? fun n => !p n with
  | none => simp
  | some n =>
    have := List.mem_range.1 (List.mem_of_find?_eq_some hf)
    simp
    omega
/-- what FirstFalseRank says -/
def ffOut (p : Nat → Bool) : Int × Int := if ffI p < 0 then (0, 4) else (ffI p, 0)
theorem ffI_some (p : Nat → Bool) (j : Nat) (hj : j < 61) (h : ∀ n < j, p n = true) (hp : p j = false) : ffI p = j := by
  have hf : (List.range 61).find? (fun n => !p n) = some j := by
    rw [List.find?_eq_some_iff_append]
    refine ⟨by rw [hp]; rfl, List.range j, List.range' (j + 1) (60 - j), ?_, fun a ha => by rw [h a (List.mem_range.1 ha)]; rfl⟩
    obtain ⟨d, hd⟩ : ∃ d, 60 - j = d := ⟨_, rfl⟩
    rw [hd, ← List.range'_succ, List.range_eq_range', List.range_eq_range', show (61 : Nat) = j + (d + 1) by omega]
    have := List.range'_append (s := 0) (m := j) (n := d + 1) (step := 1)
    rw [← this]
    simp
  unfold ffI
  rw [hf]
theorem ffI_none (p : Nat → Bool) (h : ∀ n < 61, p n = true) : ffI p = -1 := by
  have hf : (List.range 61).find? (fun n => !p n) = none := by
    rw [List.find?_eq_none]
    intro n hn
    rw [h n (List.mem_range.1 hn)]
    decide
  unfold ffI
  rw [hf]
/- Joined of several texts: 32c, 32x, 32y, 32z, 32z2, 32z3. -/
open Go.RowKit
set_option linter.unusedVariables false
set_option linter.unusedSimpArgs false
/- Contracts of ChainFrame, of the program and of the reference. -/
theorem spec_l01Own (v : Value) (xs : List Int) (w : World) (h : Sl cI w v xs) (hl : xs.length ≤ 1073741824) :
    Calls Tryz.prog 57 #[v] w fun e w' => ∃ u, e = .returned u ∧ Ow cI 2 w.heap.size w' u xs ∧ Below w.heap.size w w' := by
  obtain ⟨A, c, rfl⟩ := h.opn
  go_enter Tryz.func57, Tryz.ntmps57
  go_wp2_with (at_builtin; refine stopHere ?_)
  refine goHere ?_
  refine ap_sl (K := cI) _ ty_int64 rfl _ _ rfl rfl rfl (B := w.heap.size) (xs := []) (news := xs) (Ow.lit [] rfl rfl (Nat.le_refl _)) (h.alloc _) (by simp <;> omega) (by simp) ?_
  intro v1 w1 ho hg hb hat
  have hb' : Below w.heap.size w w1 := ((Below.refl _ _).alloc (Nat.le_refl _) _).trans hb
  have O := Lib.hid ho; clear ho hg hb hat
  go_wp2
  go_ret
  exact ⟨_, rfl, O.out, hb'⟩
/- Contracts of the test of a Trace, of the program and of the reference. -/
/-- rank i of a Trace stands well -/
def goodT (xs : List Int) (i : Nat) : Bool := inR (xs.getD i 0) 0 60 && (decide (i = 0) || decide (xs.getD (i - 1) 0 < xs.getD i 0))
def okT (xs : List Int) : Bool := (List.range xs.length).all (goodT xs)
theorem okT_true {xs : List Int} (h : ∀ i < xs.length, goodT xs i = true) : okT xs = true := by
  unfold okT
  rw [List.all_eq_true]
  exact fun i hi => h i (List.mem_range.1 hi)
theorem okT_false {xs : List Int} {i : Nat} (hi : i < xs.length) (h : goodT xs i = false) : okT xs = false := by
  unfold okT
  rw [List.all_eq_false]
  exact ⟨i, List.mem_range.2 hi, by rw [h]; decide⟩
theorem goodT_zero {xs : List Int} (h : 0 < xs.length) : goodT xs 0 = inR xs[0] 0 60 := by
  simp [goodT, List.getD_eq_getElem?_getD, h]
theorem goodT_succ {xs : List Int} {k : Nat} (h : k + 1 < xs.length) : goodT xs (k + 1) = (inR xs[k + 1] 0 60 && decide (xs[k] < xs[k + 1])) := by
  simp [goodT, List.getD_eq_getElem?_getD, h, show k < xs.length from by omega]
theorem Sl.atI2 {w : World} {A : Option Addr} {n c : Nat} {xs : List Int} (h : Sl cI w (.slice A n c) xs) {k : Nat} (hk : k + 1 < xs.length) :
    ∃ b o, A = some ⟨b, o, none⟩ ∧ b < w.heap.size ∧ w.cell? ⟨b, o + k, none⟩ = some (.int .i64 xs[k]) ∧ w.cell? ⟨b, o + (k + 1), none⟩ = some (.int .i64 xs[k + 1]) := by
  obtain ⟨b, o, rfl, hb, h0⟩ := h.atI (k := k) (by omega)
  obtain ⟨b', o', e, hb', h1⟩ := h.atI (k := k + 1) hk
  injection e with e
  injection e with e1 e2
  subst e1 e2
  exact ⟨b, o, rfl, hb, h0, h1⟩
/-- the test of a range within a region that draws, behind draws -/
theorem q_l01In {x l h : Int} {b : Bool} (hq : inR x l h = b) (W : World) (q n : Nat) :
    Calls Tryz.prog 72 #[.int .i64 x, .int .i64 l, .int .i64 h] (W.drewN (q + n)) fun e w'' => e = .returned (.bool b) ∧ ∃ m, w'' = W.drewN (q + m) :=
  (spec_l01In x l h _).mono fun e w' hh => ⟨by rw [hh.1, hq], n, hh.2.symm⟩
/- Contracts of ComplementTrace, of the program and of the reference. -/
theorem far2 {w : World} {p q a b : Addr} {x y u v : Value} (h0 : w.cell? p = some x) (h1 : w.cell? q = some y) (hp : a.block ≠ p.block) (hq : a.block ≠ q.block) (hab : b.block = a.block := by rfl) :
    ((w.setCell a u).setCell b v).cell? p = some x ∧ ((w.setCell a u).setCell b v).cell? q = some y := by
  rw [World.cell?_setCell_far _ _ _ _ (hab ▸ hp), World.cell?_setCell_far _ _ _ _ hp, World.cell?_setCell_far _ _ _ _ (hab ▸ hq), World.cell?_setCell_far _ _ _ _ hq]
  exact ⟨h0, h1⟩
/- Contracts of BoxTrace and what it calls, of the program and of the reference. -/
def shL (n : Nat) : List Int := (List.range n).map fun (i : Nat) => (i : Int)
theorem shL_length (n : Nat) : (shL n).length = n := by simp [shL]
theorem shL_snoc (n : Nat) : shL (n + 1) = shL n ++ [(n : Int)] := by simp [shL, List.range_succ]
theorem spec_l01Has (v : Value) (xs : List Int) (x : Int) (w : World) (h : Sl cI w v xs) (hl : xs.length ≤ 1048576) :
    Calls Tryz.prog 58 #[v, .int .i64 x] w fun e w' => e = .returned (.bool (decide (x ∈ xs))) ∧ w = w' := by
  obtain ⟨A, c, rfl⟩ := h.opn
  have H := Lib.hid h; clear h
  go_enter Tryz.func58, Tryz.ntmps58
  go_wp2
  go_loop [5] (fun i => ∃ j : Nat, j ≤ xs.length ∧ i = .int .i64 j ∧ x ∉ xs.take j) (fun i => xs.length - (intOf i).toNat)
  case atStart => exact ⟨0, Nat.zero_le _, rfl, by simp⟩
  case round =>
    obtain ⟨j, hj, rfl, hh⟩ := hrel
    have Hh := Lib.hid hh; clear hh
    by_cases hlt : j < xs.length
    · obtain ⟨g, o, rfl, hb, hc0⟩ := H.out.atI hlt
      by_cases hx : xs[j] = x
      · have hx' : (xs[j] == x) = true := by simpa using hx
        have HM : Hid (decide (x ∈ xs) = true) := Lib.hid (by rw [← hx]; simp)
        clear hx
        go_wp2
        go_ret
        exact ⟨by rw [HM.out]; rfl, rfl⟩
      · have hx' : (xs[j] == x) = false := by simpa using hx
        have HM : Hid (x ∉ xs.take (j + 1)) := Lib.hid (by
          rw [List.take_succ_eq_append_getElem hlt, List.mem_append, List.mem_singleton]
          rintro (h | h)
          · exact Hh.out h
          · exact hx h.symm)
        clear hx
        go_wp2
        go_round
        case rel => exact ⟨j + 1, by omega, by go_num, HM.out⟩
        case measure => simp [intOf]; omega
    · obtain rfl : j = xs.length := by omega
      have HM : Hid (decide (x ∈ xs) = false) := Lib.hid (by have := Hh.out; rw [List.take_length] at this; exact decide_eq_false this)
      go_wp2
      go_ret
      exact ⟨by rw [HM.out]; rfl, rfl⟩
theorem q_l01Has {v : Value} {xs : List Int} {W : World} (h : Sl cI W v xs) (hl : xs.length ≤ 1048576) (x : Int) (n : Nat) :
    Calls Tryz.prog 58 #[v, .int .i64 x] (W.drewN n) fun e w'' => e = .returned (.bool (decide (x ∈ xs))) ∧ ∃ m, w'' = W.drewN m :=
  (spec_l01Has v xs x _ (h.drewN n) hl).mono fun e w' hh => ⟨hh.1, n, hh.2.symm⟩
/-- the first rank that does not belong to a Trace, as the reference seeks it: to 62 -/
def fsT (b : Bool) (xs : List Int) : Nat → Nat → Nat
  | 0, n => n
  | k + 1, n => if (decide ((n : Int) ∈ xs) == b) = true then fsT b xs k (n + 1) else n
theorem fsT_le (b : Bool) (xs : List Int) (k : Nat) : ∀ n, fsT b xs k n ≤ n + k := by
  induction k with
  | zero => intro n; simp [fsT]
  | succ k ih => intro n; rw [fsT]; split; have := ih (n + 1); omega; omega
/- Contracts of BoxTrace of the reference. Written by gen32z2.py. -/
/- The plain law of BoxTrace: the program's first false rank is the reference's. -/
theorem okT_at {xs : List Int} (h : okT xs = true) {i : Nat} (hi : i < xs.length) : goodT xs i = true := by
  unfold okT at h
  rw [List.all_eq_true] at h
  exact h i (List.mem_range.2 hi)
theorem okT_mem {xs : List Int} (h : okT xs = true) {x : Int} (hx : x ∈ xs) : 0 ≤ x ∧ x ≤ 60 := by
  obtain ⟨i, hi, rfl⟩ := List.getElem_of_mem hx
  have := okT_at h hi
  simp only [goodT, inR, Bool.and_eq_true, decide_eq_true_eq, List.getD_eq_getElem?_getD, List.getElem?_eq_getElem hi, Option.getD_some] at this
  omega
theorem okT_asc {xs : List Int} (h : okT xs = true) : xs.Pairwise (· < ·) := by
  rw [List.pairwise_iff_getElem]
  intro i j hi hj hij
  induction j with
  | zero => omega
  | succ k ih =>
    have h1 := okT_at h hj
    rw [goodT_succ hj, Bool.and_eq_true, decide_eq_true_eq] at h1
    by_cases he : i = k
    · subst he; exact h1.2
    · have := ih (by omega) (by omega)
      omega
theorem ffL_ge (L : List Int) : ∀ i : Int, i ≤ ffL L i := by
  induction L with
  | nil => intro i; exact Int.le_refl _
  | cons x t ih =>
    intro i
    rw [ffL]
    split
    · have := ih (i + 1); omega
    · exact Int.le_refl _
theorem fsT_true (F : List Int) (k : Nat) : ∀ (n : Nat) (L : List Int), L.Pairwise (· < ·) → (∀ x ∈ L, (n : Int) ≤ x) → (∀ m : Int, (n : Int) ≤ m → (m ∈ F ↔ m ∈ L)) → (fsT true F k n : Int) = min ((n + k : Nat) : Int) (ffL L n) := by
  induction k with
  | zero => intro n L _ _ _; have := ffL_ge L n; simp only [fsT]; omega
  | succ k ih =>
    intro n L hp hge hm
    have hge' := ffL_ge L n
    cases L with
    | nil =>
      have hn : ¬ (n : Int) ∈ F := by rw [hm n (Int.le_refl _)]; simp
      rw [fsT, if_neg (by simp [hn])]
      simp only [ffL]; omega
    | cons x t =>
      have hx := hge x List.mem_cons_self
      rw [List.pairwise_cons] at hp
      by_cases he : x = (n : Int)
      · have hn : (n : Int) ∈ F := by rw [hm n (Int.le_refl _), he]; exact List.mem_cons_self
        rw [fsT, if_pos (by simp [hn]), ih (n + 1) t hp.2 (fun y hy => by have := hp.1 y hy; omega) (fun m hmn => by
          rw [hm m (by omega), List.mem_cons]
          constructor
          · rintro (h | h)
            · omega
            · exact h
          · exact fun h => .inr h), ffL, if_pos he]
        rw [show ((n + 1 : Nat) : Int) = (n : Int) + 1 from by omega]
        omega
      · have hn : ¬ (n : Int) ∈ F := by
          rw [hm n (Int.le_refl _), List.mem_cons]
          rintro (h | h)
          · exact he h.symm
          · have := hp.1 _ h; omega
        rw [fsT, if_neg (by simp [hn]), ffL, if_neg he]
        omega
theorem fsT_false (F : List Int) (x : Int) (hx : x ∈ F) (hmin : ∀ y ∈ F, x ≤ y) (k : Nat) : ∀ n : Nat, (n : Int) ≤ x → (fsT false F k n : Int) = min ((n + k : Nat) : Int) x := by
  induction k with
  | zero => intro n hn; simp only [fsT]; omega
  | succ k ih =>
    intro n hn
    by_cases he : (n : Int) = x
    · rw [fsT, if_neg (by simp [he, hx])]; omega
    · have hnf : ¬ (n : Int) ∈ F := fun h => by have := hmin _ h; omega
      rw [fsT, if_pos (by simp [hnf]), ih (n + 1) (by omega)]
      omega
/-- the two ways to seek it agree, where the Trace is not of all ranks -/
theorem ff_fs {b : Bool} {xs : List Int} (h : okT xs = true) (hA : (!b && decide (xs.length = 0)) = false) :
    (fsT b xs 62 0 ≤ 60 → ffT b xs = fsT b xs 62 0) ∧ (60 < fsT b xs 62 0 → 60 < ffT b xs) := by
  cases b
  · cases xs with
    | nil => simp at hA
    | cons x t =>
      have hp := okT_asc h
      rw [List.pairwise_cons] at hp
      have h1 := okT_mem h (x := x) List.mem_cons_self
      have h2 := fsT_false (x :: t) x List.mem_cons_self (fun y hy => by
        rcases List.mem_cons.1 hy with e | e
        · omega
        · have := hp.1 y e; omega) 62 0 (by omega)
      have h3 : ffT false (x :: t) = x := rfl
      rw [h3]
      omega
  · have h2 := fsT_true xs 62 0 xs (okT_asc h) (fun x hx => by have := okT_mem h hx; omega) (fun m _ => Iff.rfl)
    have h3 : ffT true xs = ffL xs 0 := rfl
    rw [h3]
    rw [show ((0 : Nat) : Int) = 0 from rfl] at h2
    omega
end Go.Proofs.YtcikenffeekkeaaGreatDoor

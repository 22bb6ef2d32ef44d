/- Joined of several texts: M33, 33g, 33h, 33i, 33r, 33s, 33t. -/
import Derived.Test.YtebpjcbgnagjeaaGreatB2
import Derived.Test.YtebpjcbgnagjeaaGreatB3
import Derived.Deep.RegionHeld3
import Derived.Deep.QuietTactic
import Derived.BigQuiet
import Derived.Laws.StructEq
namespace Go.Proofs.YtebpjcbgnagjeaaGreat
open Go.RowKit
set_option linter.unusedVariables false
set_option linter.unusedSimpArgs false
/- Plain words of chapter 33: guarded variables, the ranks of the fixed points. No program in sight. -/
/-- is a variable guarded? -/
def gd : Fm → Nat → Bool
  | .var s, v => s != v
  | .fls, _ => true
  | .bin _ a b, v => gd a v && gd b v
  | .un _ _, _ => true
/-- the lists of the parts below the first node -/
def kids : Fm → List Fm
  | .bin _ a b => [a, b]
  | .un _ a => [a]
  | _ => []
def vcode (xs : List Nd) (v : Int) : Int := if isF xs then (if inR v 0 5 then 0 else 2) else 1
theorem vcode_zero {xs : List Nd} {v : Int} (h : vcode xs v = 0) : (∃ f : Fm, f.ok = true ∧ xs = enc f ∧ (enc f).length ≤ 40) ∧ ∃ s : Nat, v = s ∧ s ≤ 5 := by
  unfold vcode at h
  by_cases h1 : isF xs = true
  · by_cases h2 : inR v 0 5 = true
    · have := inR_iff.1 h2
      exact ⟨(isF_iff xs).1 h1, v.toNat, by omega, by omega⟩
    · rw [if_pos h1, if_neg h2] at h; exact absurd h (by decide)
  · rw [if_neg h1] at h; exact absurd h (by decide)
theorem vcode_ok {xs : List Nd} {s : Nat} (h : isF xs = true) (hs : s ≤ 5) : vcode xs s = 0 := by
  unfold vcode
  rw [if_pos h, if_pos (inR_true (by omega) (by omega))]
/-- no variable but one -/
def only (xs : List Nd) (s : Nat) : Bool := decide (andnot (vmask xs) (2 ^ s) = 0)
theorem only_mems : ∀ m : Nat, m < 64 → ∀ s : Nat, s < 6 → decide (andnot m (2 ^ s) = 0) = (decide ((mems m).length = 0) || (decide ((mems m).length = 1) && decide ((mems m).headD 7 = (s : Int)))) := by decide +kernel
/-- the ranks of the fixed points below some rank -/
def fpS (f : Fm) : Nat → Nat
  | 0 => 0
  | n + 1 => fpS f n ||| (msk (rk f (fpS f n)) 61 &&& 2 ^ n)
theorem fpS_lt (f : Fm) (n : Nat) : fpS f n < 2 ^ 61 := by
  induction n with
  | zero => exact (by decide : (0 : Nat) < 2 ^ 61)
  | succ n ih => exact Nat.or_lt_two_pow ih (Nat.lt_of_le_of_lt Nat.and_le_left (msk_lt _ _))
theorem fpS_bit (f : Fm) (n i : Nat) (hn : n < 61) : (fpS f (n + 1)).testBit i = ((fpS f n).testBit i || (decide (i = n) && rk f (fpS f n) n)) := by
  rw [fpS, Nat.testBit_or, Nat.testBit_and, msk_testBit, Nat.testBit_two_pow]
  by_cases h : i = n
  · subst h
    simp [hn]
  · have h' : ¬ n = i := fun e => h e.symm
    simp [h, h']
theorem fpS_out (f : Fm) (n i : Nat) (h : n ≤ i) (hn : n ≤ 61) : (fpS f n).testBit i = false := by
  induction n with
  | zero => simp [fpS]
  | succ n ih => rw [fpS_bit f n i (by omega), ih (by omega) (by omega), decide_eq_false (by omega)]; rfl
theorem fpS_msk (f : Fm) : fpS f 61 = msk (fpS f 61).testBit 61 := msk_eq 61 _ (fpS_lt f 61) fun _ _ => rfl
/- Contracts of chapter 33: guarded variables, of the program. -/
theorem Sl2.nil {α : Type} {K : Cod α} {w : World} : Sl2 K w (.slice none 0 0) ([] : List (List α)) := ⟨[], Sl.nil, rfl, fun i a => by simp at a⟩
theorem impl_isModal_yes (k : UK) (w : World) :
    Calls Tryz.prog 61 #[.int .i64 k.i] w fun e w' => e = .returned (.bool true) ∧ w = w' := by
  cases k <;> simp only [UK.i]
  all_goals
    go_enter Tryz.func61, Tryz.ntmps61
    go_wp2
    go_ret
    exact ⟨rfl, rfl⟩
theorem impl_isModal_no (k : Int) (w : World) (h : k ≤ 4) :
    Calls Tryz.prog 61 #[.int .i64 k] w fun e w' => e = .returned (.bool false) ∧ w = w' := by
  have h5 : (k == 5) = false := by rw [beq_eq_false_iff_ne]; omega
  have h6 : (k == 6) = false := by rw [beq_eq_false_iff_ne]; omega
  go_enter Tryz.func61, Tryz.ntmps61
  go_wp2
  go_ret
  exact ⟨rfl, rfl⟩
theorem impl_parts (f : Fm) (v : Value) (w : World) (h : Sl cN w v (enc f)) (hl : (enc f).length ≤ 1048576) :
    Calls Tryz.prog 63 #[v] w fun e w' => ∃ u, e = .returned u ∧ Sl2 cN w' u ((kids f).map enc) ∧ Below w.heap.size w w' := by
  cases f with
  | var s =>
    obtain ⟨A, c, rfl⟩ := h.opn
    simp only [enc, List.length_cons, List.length_nil] at h ⊢
    obtain ⟨b, o, rfl, hb, hc0, hc1⟩ := h.atN0
    go_enter Tryz.func63, Tryz.ntmps63
    go_wp2_with fail
    refine (impl_partsOf _ _).mono ?_
    rintro e w1 ⟨rfl, rfl⟩
    rw [show parts 0 = 0 from rfl]
    go_wp2
    go_ret
    exact ⟨_, rfl, Sl2.nil, Below.refl _ _⟩
  | fls =>
    obtain ⟨A, c, rfl⟩ := h.opn
    simp only [enc, List.length_cons, List.length_nil] at h ⊢
    obtain ⟨b, o, rfl, hb, hc0, hc1⟩ := h.atN0
    go_enter Tryz.func63, Tryz.ntmps63
    go_wp2_with fail
    refine (impl_partsOf _ _).mono ?_
    rintro e w1 ⟨rfl, rfl⟩
    rw [show parts 1 = 0 from rfl]
    go_wp2
    go_ret
    exact ⟨_, rfl, Sl2.nil, Below.refl _ _⟩
  | un k a =>
    rw [enc_un] at h hl
    have hf := impl_first _ _ a [] w h hl
    obtain ⟨A, c, rfl⟩ := h.opn
    obtain ⟨b, o, rfl, hb, hc0, hc1⟩ := h.atN0
    have HF := Lib.hid hf; clear hf
    have hL0 : 0 < ((k.i, (0 : Int)) :: (enc a ++ [])).length := by simp
    clear h
    generalize ((k.i, (0 : Int)) :: (enc a ++ [])).length = L at *
    go_enter Tryz.func63, Tryz.ntmps63
    go_wp2_with fail
    refine (impl_partsOf _ _).mono ?_
    rintro e w1 ⟨rfl, rfl⟩
    rw [UK.parts k]
    go_wp2_with fail
    refine HF.out.mono ?_
    rintro e w1 ⟨u, rfl, hs, rfl⟩
    obtain ⟨A2, c2, rfl⟩ := hs.opn
    have HS := Lib.hid (Sl2.one hs 27)
    clear hs
    go_wp2
    go_ret
    exact ⟨_, rfl, HS.out, (Below.refl _ _).alloc (Nat.le_refl _) _⟩
  | bin k a b =>
    rw [enc_bin] at h hl
    have hf := impl_first _ _ a _ w h hl
    have hg := impl_second _ _ a b [] w h hl
    obtain ⟨A, c, rfl⟩ := h.opn
    obtain ⟨bb, o, rfl, hb, hc0, hc1⟩ := h.atN0
    have HF := Lib.hid hf; clear hf
    have HG := Lib.hid hg; clear hg
    have hL0 : 0 < ((k.i, (0 : Int)) :: (enc a ++ (enc b ++ []))).length := by simp
    clear h
    generalize ((k.i, (0 : Int)) :: (enc a ++ (enc b ++ []))).length = L at *
    go_enter Tryz.func63, Tryz.ntmps63
    go_wp2_with fail
    refine (impl_partsOf _ _).mono ?_
    rintro e w1 ⟨rfl, rfl⟩
    rw [BK.parts k]
    go_wp2_with fail
    refine HF.out.mono ?_
    rintro e w1 ⟨u, rfl, hs, rfl⟩
    go_wp2_with fail
    refine HG.out.mono ?_
    rintro e w1 ⟨u2, rfl, hs2, rfl⟩
    obtain ⟨A2, c2, rfl⟩ := hs.opn
    obtain ⟨A3, c3, rfl⟩ := hs2.opn
    have HS := Lib.hid (Sl2.two hs hs2 27)
    clear hs hs2
    go_wp2
    go_ret
    exact ⟨_, rfl, HS.out, (Below.refl _ _).alloc (Nat.le_refl _) _⟩
theorem impl_within (a b : Nat) (w : World) (ha : a < 9223372036854775808) (hb : b < 9223372036854775808) :
    Calls Tryz.prog 57 #[.int .i64 a, .int .i64 b] w fun e w' => e = .returned (.bool (decide (andnot a b = 0))) ∧ w = w' := by
  have E := i64_andNot_nat a b ha hb
  go_enter Tryz.func57, Tryz.ntmps57
  go_wp2
  go_ret
  exact ⟨by congr 1; show Value.bool _ = Value.bool _; congr 1; rw [Bool.eq_iff_iff]; simp, rfl⟩
theorem impl_variableCode (v : Value) (xs : List Nd) (s : Int) (w : World) (h : Sl cN w v xs) (hl : xs.length ≤ 1048576) :
    Calls Tryz.prog 28 #[v, .int .i64 s] w fun e w' => e = .returned (.int .i64 (vcode xs s)) ∧ Below w.heap.size w w' := by
  cases h1 : isF xs
  · have E : Hid (vcode xs s = 1) := Lib.hid (by unfold vcode; rw [h1]; rfl)
    have H1 := Lib.hid h1; clear h1
    go_enter Tryz.func28, Tryz.ntmps28
    go_wp2_with fail
    refine (impl_isFormula _ xs _ h (by omega)).mono ?_
    rintro e w1 ⟨rfl, hb⟩
    rw [H1.out]
    have HB := Lib.hid hb; clear hb
    go_wp2
    go_ret
    exact ⟨by rw [E.out]; rfl, HB.out⟩
  · obtain ⟨k, hk⟩ : ∃ k, vcode xs s = k := ⟨_, rfl⟩
    have hk0 := hk
    unfold vcode at hk0
    rw [h1, if_pos rfl] at hk0
    have E := Lib.hid hk; clear hk
    cases h2 : inR s 0 5
    all_goals
      rw [h2] at hk0
      first | rw [if_pos rfl] at hk0 | rw [if_neg (by decide)] at hk0
      subst hk0
      have H1 := Lib.hid h1; clear h1
      have H2 := Lib.hid h2; clear h2
      go_enter Tryz.func28, Tryz.ntmps28
      go_wp2_with fail
      refine (impl_isFormula _ xs _ h (by omega)).mono ?_
      rintro e w1 ⟨rfl, hb⟩
      rw [H1.out]
      have HB := Lib.hid hb; clear hb
      go_wp2_with fail
      refine (impl_isVariable _ _).mono ?_
      rintro e w1 ⟨rfl, rfl⟩
      rw [H2.out]
      go_wp2
      go_ret
      exact ⟨by rw [E.out]; rfl, HB.out⟩
theorem spec_l33Code (v : Value) (xs : List Nd) (s : Int) (w : World) (h : Sl cN w v xs) (hl : xs.length ≤ 1048576) :
    Calls Tryz.prog 31 #[v, .int .i64 s] w fun e w' => e = .returned (.int .i64 (vcode xs s)) ∧ w = w' := by
  cases h1 : isF xs
  · have E : Hid (vcode xs s = 1) := Lib.hid (by unfold vcode; rw [h1]; rfl)
    have H1 := Lib.hid h1; clear h1
    go_enter Tryz.func31, Tryz.ntmps31
    go_wp2_with fail
    refine (spec_l02Is _ xs _ h (by omega)).mono ?_
    rintro e w1 ⟨rfl, rfl⟩
    rw [H1.out]
    go_wp2
    go_ret
    exact ⟨by rw [E.out]; rfl, rfl⟩
  · obtain ⟨k, hk⟩ : ∃ k, vcode xs s = k := ⟨_, rfl⟩
    have hk0 := hk
    unfold vcode at hk0
    rw [h1, if_pos rfl] at hk0
    have E := Lib.hid hk; clear hk
    cases h2 : inR s 0 5
    all_goals
      rw [h2] at hk0
      first | rw [if_pos rfl] at hk0 | rw [if_neg (by decide)] at hk0
      subst hk0
      have H1 := Lib.hid h1; clear h1
      have H2 := Lib.hid h2; clear h2
      go_enter Tryz.func31, Tryz.ntmps31
      go_wp2_with fail
      refine (spec_l02Is _ xs _ h (by omega)).mono ?_
      rintro e w1 ⟨rfl, rfl⟩
      rw [H1.out]
      go_wp2_with fail
      refine (spec_l01In _ _ _ _).mono ?_
      rintro e w1 ⟨rfl, rfl⟩
      rw [H2.out]
      go_wp2
      go_ret
      exact ⟨by rw [E.out]; rfl, rfl⟩
/- Contracts of chapter 33: guarded variables, of the program; slices.IndexFunc and slices.ContainsFunc at lists of nodes, by the index. -/
/-- the first index at which p holds, or -1 -/
def fidx (p : Nat → Bool) (n : Nat) : Int := match (List.range n).find? p with | some i => (i : Int) | none => -1
theorem fidx_some {p : Nat → Bool} {n j : Nat} (hj : j < n) (h : ∀ i < j, p i = false) (hp : p j = true) : fidx p n = j := by
  have hf : (List.range n).find? p = some j := by
    rw [List.find?_eq_some_iff_append]
    refine ⟨hp, List.range j, List.range' (j + 1) (n - 1 - j), ?_, fun a ha => by rw [h a (List.mem_range.1 ha)]; rfl⟩
    obtain ⟨d, hd⟩ : ∃ d, n - 1 - j = d := ⟨_, rfl⟩
    rw [hd, ← List.range'_succ, List.range_eq_range', List.range_eq_range', show n = j + (d + 1) by omega]
    have := List.range'_append (s := 0) (m := j) (n := d + 1) (step := 1)
    rw [← this]
    simp
  unfold fidx
  rw [hf]
theorem fidx_none {p : Nat → Bool} {n : Nat} (h : ∀ i < n, p i = false) : fidx p n = -1 := by
  have hf : (List.range n).find? p = none := by
    rw [List.find?_eq_none]
    intro i hi
    rw [h i (List.mem_range.1 hi)]
    decide
  unfold fidx
  rw [hf]
theorem fidx_range (p : Nat → Bool) (n : Nat) : -1 ≤ fidx p n ∧ fidx p n < n := by
  unfold fidx
  cases hf : (List.range n).find? p with
  | none => simp; omega
  | some i =>
    have := List.mem_range.1 (List.mem_of_find?_eq_some hf)
    simp
    omega
theorem fidx_any (p : Nat → Bool) (n : Nat) : decide (0 ≤ fidx p n) = (List.range n).any p := by
  cases h : (List.range n).any p
  · rw [fidx_none fun i hi => by
      have := List.any_eq_false.1 h i (List.mem_range.2 hi)
      simpa using this]
    rfl
  · have hf : ∃ j, (List.range n).find? p = some j := by
      obtain ⟨x, hx, hp⟩ := List.any_eq_true.1 h
      cases hq : (List.range n).find? p with
      | none => exact absurd hp (by have := List.find?_eq_none.1 hq x hx; exact this)
      | some j => exact ⟨j, rfl⟩
    obtain ⟨j, hj⟩ := hf
    unfold fidx
    rw [hj]
    simp
theorem any_range {α : Type} (l : List α) (d : α) (p : α → Bool) : (List.range l.length).any (fun i => p (l.getD i d)) = l.any p := by
  rw [Bool.eq_iff_iff, List.any_eq_true, List.any_eq_true]
  constructor
  · rintro ⟨i, hi, h⟩
    have hi := List.mem_range.1 hi
    rw [List.getD_eq_getElem?_getD, List.getElem?_eq_getElem hi] at h
    exact ⟨_, List.getElem_mem hi, h⟩
  · rintro ⟨x, hx, h⟩
    obtain ⟨i, hi, rfl⟩ := List.getElem_of_mem hx
    exact ⟨i, List.mem_range.2 hi, by rw [List.getD_eq_getElem?_getD, List.getElem?_eq_getElem hi]; exact h⟩
theorem slices_IndexFunc_nodes' (v : Value) (xss : List (List Nd)) (k : FuncId) (cap : Array Value) (p : Nat → Bool) (w : World) (h : Sl2 cN w v xss) (hl : xss.length ≤ 1073741824)
    (hk : ∀ (args : Array Value) (w : World), (callFunc k args).run Tryz.prog w = .ok (.enter k args) w)
    (hf : ∀ w', Below w.heap.size w w' → ∀ (u : Value) (i : Nat) (hi : i < xss.length), Sl cN w' u xss[i] → Calls Tryz.prog k (#[u] ++ cap) w' fun e w'' => e = .returned (.bool (p i)) ∧ Below w'.heap.size w' w'') :
    Calls Tryz.prog 105 #[v, .func (.func k) #[] cap] w fun e w' => e = .returned (.int .i64 (fidx p xss.length)) ∧ Below w.heap.size w w' := by
  obtain ⟨A, c, rfl⟩ := h.opn
  have HF := Lib.hid hf; clear hf
  go_enter Tryz.func105, Tryz.ntmps105
  go_wp2
  go_loopw [8] (fun i wr => ∃ j : Nat, j ≤ xss.length ∧ i = .int .i64 j ∧ (∀ i < j, p i = false) ∧ Below w.heap.size w wr) (fun i _ => xss.length - (intOf i).toNat)
  case atStart => exact ⟨0, Nat.zero_le _, rfl, fun i hi => by omega, Below.refl _ _⟩
  case round =>
    obtain ⟨j, hj, rfl, hh, hb⟩ := hrel
    have Hh := Lib.hid hh; clear hh
    by_cases hlt : j < xss.length
    · obtain ⟨b, o, Ai, ni, ci, rfl, hbl, hc0, hs⟩ := (h.below hb).at_ hlt
      have HS := Lib.hid hs; clear hs
      go_wp2_with fail
      refine (HF.out wr hb _ j hlt HS.out).mono ?_
      rintro e w1 ⟨rfl, hb1⟩
      have HB : Hid (Below w.heap.size w w1) := Lib.hid (hb.trans (hb1.mono hb.size))
      clear hb1 hb
      by_cases hp : p j = true
      · have HE := Lib.hid (fidx_some hlt Hh.out hp)
        rw [hp]
        have HP := Lib.hid hp; clear hp
        go_wp2
        go_ret
        exact ⟨by rw [HE.out]; rfl, HB.out⟩
      · rw [Bool.not_eq_true] at hp
        rw [hp]
        have HP := Lib.hid hp; clear hp
        go_wp2
        go_roundw
        case rel => exact ⟨j + 1, by omega, by go_num, fun i hi => (Nat.lt_or_ge i j).elim (fun h => Hh.out i h) (fun h => (show i = j by omega) ▸ HP.out), HB.out⟩
        case measure => simp [intOf]; omega
    · have HE : Hid (fidx p xss.length = -1) := Lib.hid (fidx_none fun i hi => Hh.out i (by omega))
      have HB := Lib.hid hb; clear hb
      go_wp2
      go_ret
      exact ⟨by rw [HE.out]; rfl, HB.out⟩
theorem slices_ContainsFunc_nodes' (v : Value) (xss : List (List Nd)) (k : FuncId) (cap : Array Value) (p : Nat → Bool) (w : World) (h : Sl2 cN w v xss) (hl : xss.length ≤ 1073741824)
    (hk : ∀ (args : Array Value) (w : World), (callFunc k args).run Tryz.prog w = .ok (.enter k args) w)
    (hf : ∀ w', Below w.heap.size w w' → ∀ (u : Value) (i : Nat) (hi : i < xss.length), Sl cN w' u xss[i] → Calls Tryz.prog k (#[u] ++ cap) w' fun e w'' => e = .returned (.bool (p i)) ∧ Below w'.heap.size w' w'') :
    Calls Tryz.prog 62 #[v, .func (.func k) #[] cap] w fun e w' => e = .returned (.bool ((List.range xss.length).any p)) ∧ Below w.heap.size w w' := by
  have HI := Lib.hid (slices_IndexFunc_nodes' v xss k cap p w h hl hk hf)
  have HR := Lib.hid (fidx_any p xss.length)
  clear h hk hf
  go_enter Tryz.func62, Tryz.ntmps62
  go_wp2_with fail
  refine HI.out.mono ?_
  rintro e w1 ⟨rfl, hb⟩
  have HB := Lib.hid hb; clear hb
  go_wp2
  go_ret
  exact ⟨by rw [← HR.out]; rfl, HB.out⟩
theorem impl_isGuarded_1 (q : Bool) (s : Nat) (B : Nat) (u : Value) (w : World) (hc : w.cell? ⟨B, 0, none⟩ = some (.int .i64 s))
    (hi : Calls Tryz.prog 17 #[u, .int .i64 s] w fun e w' => e = .returned (.bool q) ∧ Below w.heap.size w w') :
    Calls Tryz.prog 64 #[u, .pointer (some ⟨B, 0, none⟩)] w fun e w' => e = .returned (.bool (!q)) ∧ Below w.heap.size w w' := by
  have HI := Lib.hid hi; clear hi
  go_enter Tryz.func64, Tryz.ntmps64
  go_wp2_with fail
  refine HI.out.mono ?_
  rintro e w1 ⟨rfl, hb⟩
  have HB := Lib.hid hb; clear hb
  go_wp2
  go_ret
  exact ⟨rfl, HB.out⟩
theorem en_isGuarded_1 : ∀ (args : Array Value) (w : World), (callFunc 64 args).run Tryz.prog w = .ok (.enter 64 args) w := enters Tryz.func64 (by kernel_rfl) (by kernel_rfl)
theorem run_eqg_node (op : BinOp) (x y : Operand) (xs ys : Array Value) (w : World) : (eqGuard op 54 x y (.agg xs) (.agg ys)).run Tryz.prog w = .ok () w := run_eqGuard_agg w op _ x y xs ys (by kernel_rfl)
theorem run_neq_node (a b c d : Int) (w : World) : (binOp .neq 54 (.agg #[.int .i64 a, .int .i64 b]) (.agg #[.int .i64 c, .int .i64 d])).run Tryz.prog w = .ok (.bool (!(a == c && b == d))) w := by
  have u3 := Tryz.underlying2
  have hS : Tryz.prog.underlying 54 = some (.struct (Tryz.prog.fieldsOf 54)) := by kernel_rfl
  have hp : Tryz.prog.stoodInHeld 54 = false := by kernel_rfl
  rw [run_neq_struct, show (10000 : Nat) = 9999 + 1 from rfl, run_equalIn_agg w 9999 _ _ _ hS hp]
  simp only [Program.fieldsOf, Tryz.underlying54]
  go_simp
  by_cases h1 : a = c <;> by_cases h2 : b = d <;> simp [h1, h2]
theorem impl_isGuarded_var (t s : Nat) (v : Value) (w : World) (h : Sl cN w v (enc (.var t))) (hne : t = s) :
    Calls Tryz.prog 17 #[v, .int .i64 s] w fun e w' => e = .returned (.bool false) ∧ Below w.heap.size w w' := by
  subst hne
  obtain ⟨A, c, rfl⟩ := h.opn
  simp only [enc, List.length_cons, List.length_nil] at h ⊢
  obtain ⟨b, o, rfl, hb, hc0, hc1⟩ := (h.alloc (.cells #[.int .i64 (t : Int)] 2)).atN0
  have HB : Hid (Below w.heap.size w (w.alloc (.cells #[.int .i64 (t : Int)] 2))) := Lib.hid ((Below.refl _ _).alloc (Nat.le_refl _) _)
  go_enter Tryz.func17, Tryz.ntmps17
  go_wp2_with fail
  refine (impl_isModal_no _ _ (by omega)).mono ?_
  rintro e w1 ⟨rfl, rfl⟩
  go_wp2_with fail
  go_quiet (fail)
  go_wp2
  go_ret
  exact ⟨rfl, below_drewN HB.out _⟩
theorem impl_isGuarded_modal (k : UK) (a : Fm) (s : Nat) (v : Value) (w : World) (h : Sl cN w v (enc (.un k a))) :
    Calls Tryz.prog 17 #[v, .int .i64 s] w fun e w' => e = .returned (.bool true) ∧ Below w.heap.size w w' := by
  rw [enc_un] at h
  obtain ⟨A, c, rfl⟩ := h.opn
  obtain ⟨b, o, rfl, hb, hc0, hc1⟩ := (h.alloc (.cells #[.int .i64 (s : Int)] 2)).atN0
  have hL0 : 0 < ((k.i, (0 : Int)) :: (enc a ++ [])).length := by simp
  have HB : Hid (Below w.heap.size w (w.alloc (.cells #[.int .i64 (s : Int)] 2))) := Lib.hid ((Below.refl _ _).alloc (Nat.le_refl _) _)
  clear h
  generalize ((k.i, (0 : Int)) :: (enc a ++ [])).length = L at *
  go_enter Tryz.func17, Tryz.ntmps17
  go_wp2_with fail
  refine (impl_isModal_yes _ _).mono ?_
  rintro e w1 ⟨rfl, rfl⟩
  go_wp2
  go_ret
  exact ⟨rfl, HB.out⟩
def kidBad (f : Fm) (s i : Nat) : Bool := !gd ((kids f).getD i .fls) s
theorem kids_all (f : Fm) (s : Nat) : (!(List.range (kids f).length).any (kidBad f s)) = (kids f).all fun g => gd g s := by
  have h := any_range (kids f) .fls (fun g => !gd g s)
  rw [show (List.range (kids f).length).any (kidBad f s) = (kids f).any fun g => !gd g s from h, List.any_eq_not_all_not, Bool.not_not]
  congr 1
  funext g
  rw [Bool.not_not]
theorem kids_length (f : Fm) : (kids f).length ≤ 2 := by cases f <;> simp [kids]
theorem ih_kid {f : Fm} {s : Nat} (H : Hid (∀ g ∈ kids f, ∀ (v : Value) (w : World), Sl cN w v (enc g) → Calls Tryz.prog 17 #[v, .int .i64 s] w fun e w' => e = .returned (.bool (gd g s)) ∧ Below w.heap.size w w'))
    {i : Nat} (hi : i < ((kids f).map enc).length) {u : Value} {W : World} (hu : Sl cN W u ((kids f).map enc)[i]) :
    Calls Tryz.prog 17 #[u, .int .i64 s] W fun e w' => e = .returned (.bool (gd ((kids f).getD i .fls) s)) ∧ Below W.heap.size W w' := by
  have hi' : i < (kids f).length := by simpa using hi
  rw [List.getElem_map] at hu
  rw [List.getD_eq_getElem?_getD, List.getElem?_eq_getElem hi']
  exact H.out _ (List.getElem_mem hi') u W hu
set_option maxRecDepth 100000 in
theorem impl_isGuarded_go (f : Fm) (s : Nat) (x : Nd) (t : List Nd) (he : enc f = x :: t) (hk : x.1 ≤ 4) (hne : ¬ (x.1 = 0 ∧ x.2 = s))
    (ih : ∀ g ∈ kids f, ∀ (v : Value) (w : World), Sl cN w v (enc g) → Calls Tryz.prog 17 #[v, .int .i64 s] w fun e w' => e = .returned (.bool (gd g s)) ∧ Below w.heap.size w w')
    (v : Value) (w : World) (h : Sl cN w v (enc f)) (hl : (enc f).length ≤ 1048576) :
    Calls Tryz.prog 17 #[v, .int .i64 s] w fun e w' => e = .returned (.bool ((kids f).all fun g => gd g s)) ∧ Below w.heap.size w w' := by
  have hp := fun (W : World) (hW : Sl cN W v (enc f)) => impl_parts f v W hW hl
  obtain ⟨A, c, rfl⟩ := h.opn
  have h' := h
  rw [he] at h'
  obtain ⟨b, o, rfl, hb, hc0, hc1⟩ := (h'.alloc (.cells #[.int .i64 (s : Int)] 2)).atN0
  have hL0 : 0 < (enc f).length := enc_pos f
  have HB : Hid (Below w.heap.size w (w.alloc (.cells #[.int .i64 (s : Int)] 2))) := Lib.hid ((Below.refl _ _).alloc (Nat.le_refl _) _)
  have HH := Lib.hid (h.alloc (.cells #[.int .i64 (s : Int)] 2))
  have K0 := Bk.new w #[.int .i64 (s : Int)] 2
  have HP := Lib.hid hp; clear hp
  have HI := Lib.hid ih; clear ih
  have HC := Lib.hid (fun (W1 : World) (u : Value) (hs : Sl2 cN W1 u ((kids f).map enc)) (hc : W1.cell? ⟨w.heap.size, 0, none⟩ = some (.int .i64 s)) (hlt : w.heap.size < W1.heap.size) =>
    slices_ContainsFunc_nodes' u _ 64 #[.pointer (some ⟨w.heap.size, 0, none⟩)] (kidBad f s) W1 hs (by rw [List.length_map]; have := kids_length f; omega) en_isGuarded_1 (fun W hW u' i hi hu => by
      rw [show (#[u'] ++ #[Value.pointer (some ⟨w.heap.size, 0, none⟩)] : Array Value) = #[u', .pointer (some ⟨w.heap.size, 0, none⟩)] from rfl]
      exact impl_isGuarded_1 _ s w.heap.size u' W ((hW.cell (p := ⟨w.heap.size, 0, none⟩) hlt).trans hc) (ih_kid HI hi hu)))
  have E := Lib.hid (kids_all f s)
  clear h h' he
  generalize hLL : (enc f).length = L at *
  clear hLL
  obtain ⟨x1, x2⟩ := x
  simp only at hk hne hc0 hc1
  go_enter Tryz.func17, Tryz.ntmps17
  go_wp2_with fail
  refine (impl_isModal_no _ _ hk).mono ?_
  rintro e w1 ⟨rfl, rfl⟩
  go_wp2_with fail
  have c0 : (w.alloc (.cells #[.int .i64 (s : Int)] 2)).cell? ⟨w.heap.size, 0, none⟩ = some (.int .i64 s) := K0.2 0
  have hbs := K0.1
  have hne1 : (x1 == 0 && x2 == (s : Int)) = false := by
    rw [Bool.eq_false_iff]
    intro h
    simp only [Bool.and_eq_true, beq_iff_eq] at h
    exact hne h
  clear hne
  have hnq := run_neq_node x1 x2 0 s
  have hng := run_eqg_node
  simp only [hne1, Bool.not_false] at hnq
  clear hne1
  go_region_held3 (fun w' => w'.cell? ⟨b, o, none⟩ = some (.int .i64 x1) ∧ w'.cell? ⟨b, o + 1, none⟩ = some (.int .i64 x2) ∧ w'.cell? ⟨w.heap.size, 0, none⟩ = some (.int .i64 s)) (first | exact ⟨d0'', d1'', c0''⟩ | exact ⟨d0', d1', c0'⟩ | exact ⟨hc0, hc1, c0⟩ | (simp [*]; done)) (first | (go_at_call 63; refine (HP.out _ (HH.out.below (below_drewN (Below.refl _ _) 1))).mono ?_; rintro e w1 ⟨u, rfl, hs, hbP⟩; have hbP1 : Below (w.alloc (.cells #[.int .i64 (s : Int)] 2)).heap.size (w.alloc (.cells #[.int .i64 (s : Int)] 2)) w1 := (below_drewN (Below.refl _ _) 1).trans hbP; have d0' := (hbP1.cell (p := ⟨b, o, none⟩) hb).trans hc0; have d1' := (hbP1.cell (p := ⟨b, o + 1, none⟩) hb).trans hc1; have c0' := (hbP1.cell (p := ⟨w.heap.size, 0, none⟩) hbs).trans c0; have hlt' := Nat.lt_of_lt_of_le hbs hbP1.size) | (go_at_call 62; refine (HC.out _ _ hs c0' hlt').mono ?_; rintro e w2 ⟨rfl, hbQ⟩; have d0'' := (hbQ.cell (p := ⟨b, o, none⟩) (Nat.lt_of_lt_of_le hb hbP1.size)).trans d0'; have d1'' := (hbQ.cell (p := ⟨b, o + 1, none⟩) (Nat.lt_of_lt_of_le hb hbP1.size)).trans d1'; have c0'' := (hbQ.cell (p := ⟨w.heap.size, 0, none⟩) hlt').trans c0'))
  all_goals
    have HF := Lib.hid (HB.out.trans ((bthen hbP1 hbQ).mono HB.out.size))
    clear d0' d1' c0' hlt' d0'' d1'' c0'' hbP hbP1 hbQ hs hng hnq hc0 hc1 c0
    go_wp2
    go_ret
    exact ⟨by rw [← E.out]; rfl, HF.out⟩
theorem impl_isGuarded (f : Fm) (s : Nat) : ∀ (v : Value) (w : World), Sl cN w v (enc f) → (enc f).length ≤ 1048576 →
    Calls Tryz.prog 17 #[v, .int .i64 s] w fun e w' => e = .returned (.bool (gd f s)) ∧ Below w.heap.size w w' := by
  induction f with
  | var t =>
    intro v w h hl
    by_cases hts : t = s
    · rw [show gd (.var t) s = false by simp [gd, hts]]
      exact impl_isGuarded_var t s v w h hts
    · have := impl_isGuarded_go (.var t) s (0, (t : Int)) [] rfl (by simp) (by simp; omega) (fun g hg => by simp [kids] at hg) v w h hl
      rw [show gd (.var t) s = true by simp [gd, hts]]
      simpa [kids] using this
  | fls =>
    intro v w h hl
    have := impl_isGuarded_go .fls s (1, 0) [] rfl (by decide) (by simp) (fun g hg => by simp [kids] at hg) v w h hl
    simpa [kids, gd] using this
  | un k a ih => intro v w h hl; exact impl_isGuarded_modal k a s v w h
  | bin k a b iha ihb =>
    intro v w h hl
    have hl2 : (enc a).length ≤ 1048576 := by simp [enc] at hl; omega
    have hl3 : (enc b).length ≤ 1048576 := by simp [enc] at hl; omega
    have := impl_isGuarded_go (.bin k a b) s (k.i, 0) (enc a ++ enc b) rfl (by cases k <;> decide) (by cases k <;> simp [BK.i]) (fun g hg u W hu => by
      simp only [kids, List.mem_cons, List.not_mem_nil, or_false] at hg
      rcases hg with rfl | rfl
      · exact iha u W hu hl2
      · exact ihb u W hu hl3) v w h hl
    simpa [kids, gd] using this
/- Contracts of chapter 33: guarded variables, of the reference. -/
theorem drop_split {α : Type} {xs ys zs : List α} {j : Nat} (h : xs.drop j = ys ++ zs) : xs.drop (j + ys.length) = zs := by
  rw [← List.drop_drop, h, List.drop_left]
theorem drop_lt {α : Type} {xs : List α} {j : Nat} {y : α} {ys : List α} (h : xs.drop j = y :: ys) : ∃ hj : j < xs.length, xs[j] = y := by
  have hj : j < xs.length := by
    rcases Nat.lt_or_ge j xs.length with h1 | h1
    · exact h1
    · rw [List.drop_of_length_le h1] at h; cases h
  refine ⟨hj, ?_⟩
  rw [List.drop_eq_getElem_cons hj] at h
  exact (List.cons.inj h).1
theorem spec_l03Guarded (f : Fm) (s : Nat) (v : Value) (w : World) (h : Sl cN w v (enc f)) (hl : (enc f).length ≤ 1048576) :
    Calls Tryz.prog 21 #[v, .int .i64 s] w fun e w' => e = .returned (.bool (gd f s)) ∧ w = w' := by
  obtain ⟨A, c, rfl⟩ := h.opn
  go_enter Tryz.func21, Tryz.ntmps21
  go_wp2
  go_loop [5] (fun i => ∃ (j : Nat) (fs : List Fm), j ≤ (enc f).length ∧ i = .int .i64 j ∧ (enc f).drop j = fs.flatMap enc ∧ gd f s = fs.all fun g => gd g s) (fun i => (enc f).length - (intOf i).toNat)
  case atStart => exact ⟨0, [f], Nat.zero_le _, rfl, by simp, by simp⟩
  case round =>
    obtain ⟨j, fs, hj, rfl, hd, hg⟩ := hrel
    cases fs with
    | nil =>
      have hj2 : ¬ j < (enc f).length := by
        intro hlt
        rw [List.drop_eq_getElem_cons hlt] at hd
        cases hd
      have HG : Hid (gd f s = true) := Lib.hid (by rw [hg]; rfl)
      clear hd hg
      go_wp2
      go_ret
      exact ⟨by rw [HG.out]; rfl, rfl⟩
    | cons g gs =>
      rw [List.flatMap_cons] at hd
      have hgl := congrArg List.length hd
      rw [List.length_drop, List.length_append] at hgl
      cases g with
      | var t =>
        obtain ⟨hlt, hx⟩ := drop_lt hd
        have HD := Lib.hid (drop_split hd); clear hd
        obtain ⟨b, o, rfl, hb, hc0, hc1⟩ := h.atN hlt
        rw [hx] at hc0 hc1
        by_cases ht : t = s
        · have HG : Hid (gd f s = false) := Lib.hid (by rw [hg]; simp [gd, ht])
          subst ht
          clear hg hx
          go_wp2
          go_ret
          exact ⟨by rw [HG.out]; rfl, rfl⟩
        · have HG : Hid (gd f s = gs.all fun g => gd g s) := Lib.hid (by rw [hg]; simp [gd, ht])
          have ht' : (((t : Nat) : Int) == (s : Int)) = false := by rw [beq_eq_false_iff_ne]; omega
          clear hg hx ht
          go_wp2_with fail
          refine (spec_l02Parts _ _).mono ?_
          rintro e w1 ⟨rfl, rfl⟩
          rw [show parts 0 = 0 from rfl]
          go_wp2
          go_round
          case rel => exact ⟨j + 1, gs, by omega, by go_num, HD.out, HG.out⟩
          case measure => simp [intOf]; omega
      | fls =>
        obtain ⟨hlt, hx⟩ := drop_lt hd
        have HD := Lib.hid (drop_split hd); clear hd
        obtain ⟨b, o, rfl, hb, hc0, hc1⟩ := h.atN hlt
        rw [hx] at hc0 hc1
        have HG : Hid (gd f s = gs.all fun g => gd g s) := Lib.hid (by rw [hg]; simp [gd])
        clear hg hx
        go_wp2_with fail
        refine (spec_l02Parts _ _).mono ?_
        rintro e w1 ⟨rfl, rfl⟩
        rw [show parts 1 = 0 from rfl]
        go_wp2
        go_round
        case rel => exact ⟨j + 1, gs, by omega, by go_num, HD.out, HG.out⟩
        case measure => simp [intOf]; omega
      | bin k a d =>
        obtain ⟨hlt, hx⟩ := drop_lt hd
        have HD : Hid ((enc f).drop (j + 1) = (a :: d :: gs).flatMap enc) := by
          show _ = _
          have := drop_split (ys := [(k.i, (0 : Int))]) (zs := enc a ++ enc d ++ gs.flatMap enc) (by rw [hd]; rfl)
          rw [List.length_singleton] at this
          rw [this]
          simp
        clear hd
        obtain ⟨b, o, rfl, hb, hc0, hc1⟩ := h.atN hlt
        rw [hx] at hc0 hc1
        have HG : Hid (gd f s = (a :: d :: gs).all fun g => gd g s) := Lib.hid (by rw [hg]; simp [gd, Bool.and_assoc])
        have hk0 : ((k.i : Int) == 0) = false := by cases k <;> rfl
        clear hg hx
        go_wp2_with fail
        refine (spec_l02Parts _ _).mono ?_
        rintro e w1 ⟨rfl, rfl⟩
        rw [BK.parts k]
        go_wp2
        go_round
        case rel => exact ⟨j + 1, a :: d :: gs, by omega, by go_num, HD.out, HG.out⟩
        case measure => simp [intOf]; omega
      | un k a =>
        have hpe : pe ((enc f).drop j) 1 j = j + (enc (.un k a)).length := by rw [hd]; exact pe_enc1 _ _ _
        have HP := Lib.hid hpe; clear hpe
        obtain ⟨hlt, hx⟩ := drop_lt hd
        have HD := Lib.hid (drop_split hd); clear hd
        obtain ⟨b, o, rfl, hb, hc0, hc1⟩ := h.atN hlt
        rw [hx] at hc0 hc1
        have HG : Hid (gd f s = gs.all fun g => gd g s) := Lib.hid (by rw [hg]; simp [gd])
        have hk0 : ((k.i : Int) == 0) = false := by cases k <;> rfl
        have hpos := enc_pos (.un k a)
        clear hg hx
        go_wp2_with fail
        refine (spec_l02Parts _ _).mono ?_
        rintro e w1 ⟨rfl, rfl⟩
        rw [UK.parts k]
        go_wp2_with fail
        refine (spec_l02Part _ _ j _ h (by omega) (by omega)).mono ?_
        rintro e w1 ⟨rfl, rfl⟩
        rw [HP.out]
        go_wp2
        go_round
        case rel => exact ⟨j + (enc (.un k a)).length, gs, by omega, by go_num, HD.out, HG.out⟩
        case measure => simp [intOf]; omega
/- Contracts of chapter 33: the row of a formula below a box or a diamond, and of False. Written by gen33r.py out of the texts on l32Row. -/
def rowOf (s : Nat) : List Bool := (List.range 61).map s.testBit
theorem rowOf_length (s : Nat) : (rowOf s).length = 61 := by simp [rowOf]
def rowv (s : Nat) (f : Fm) : List Bool := (List.range 61).map (rk f s)
theorem rowv_length (s : Nat) (f : Fm) : (rowv s f).length = 61 := by simp [rowv]
theorem rowv_get (s : Nat) (f : Fm) (j : Nat) (h : j < (rowv s f).length) : (rowv s f)[j] = rk f s j := by simp [rowv]
/- Contracts of chapter 33: the row of a formula with two parts. Written by gen33r.py out of the texts on l32Row. -/
/- Contracts of chapter 33: rows and traces of fixed points, of the reference. -/
theorem rowv_var (s t : Nat) : rowv s (.var t) = rowOf s := List.map_congr_left fun n _ => rfl
theorem rowOf_succ (f : Fm) (j : Nat) (h : j < 61) : (rowOf (fpS f j)).set j (rk f (fpS f j) j) = rowOf (fpS f (j + 1)) := by
  apply List.ext_getElem
  · simp [rowOf]
  · intro i h1 h2
    have hi : i < 61 := by simpa [rowOf] using h2
    rw [List.getElem_set]
    simp only [rowOf, List.getElem_map, List.getElem_range]
    rw [fpS_bit f j i h]
    by_cases hij : j = i
    · subst hij
      rw [if_pos rfl, fpS_out f j j (Nat.le_refl _) (by omega)]
      simp
    · rw [if_neg hij, decide_eq_false (fun e => hij e.symm)]
      simp
end Go.Proofs.YtebpjcbgnagjeaaGreat

/- Joined of several texts: M33, 33g, 33h, 33i, 33r, 33s, 33t. -/
import Derived.Test.YtgcoohlakcncbaaGreatB2
import Derived.Test.YtgcoohlakcncbaaGreatB3
import Derived.Deep.RegionHeld3
import Derived.Deep.QuietTactic
import Derived.BigQuiet
import Derived.Laws.StructEq
namespace Go.Proofs.YtgcoohlakcncbaaGreat
open Go.RowKit
set_option linter.unusedVariables false
set_option linter.unusedSimpArgs false
/- Plain words of chapter 33: guarded variables, the ranks of the fixed points. No program in sight. -/
/-- is a variable guarded? -/
def gd : Fm → Nat → Bool
  | .var s, v => s != v
  | .fls, _ => true
  | .bin _ a b, v => gd a v && gd b v
  | .un _ _, _ => true
/-- the lists of the parts below the first node -/
def kids : Fm → List Fm
  | .bin _ a b => [a, b]
  | .un _ a => [a]
  | _ => []
def vcode (xs : List Nd) (v : Int) : Int := if isF xs then (if inR v 0 5 then 0 else 2) else 1
theorem vcode_zero {xs : List Nd} {v : Int} (h : vcode xs v = 0) : (∃ f : Fm, f.ok = true ∧ xs = enc f ∧ (enc f).length ≤ 40) ∧ ∃ s : Nat, v = s ∧ s ≤ 5 := by
  unfold vcode at h
  by_cases h1 : isF xs = true
  · by_cases h2 : inR v 0 5 = true
    · have := inR_iff.1 h2
      exact ⟨(isF_iff xs).1 h1, v.toNat, by omega, by omega⟩
    · rw [if_pos h1, if_neg h2] at h; exact absurd h (by decide)
  · rw [if_neg h1] at h; exact absurd h (by decide)
theorem vcode_ok {xs : List Nd} {s : Nat} (h : isF xs = true) (hs : s ≤ 5) : vcode xs s = 0 := by
  unfold vcode
  rw [if_pos h, if_pos (inR_true (by omega) (by omega))]
/-- no variable but one -/
def only (xs : List Nd) (s : Nat) : Bool := decide (andnot (vmask xs) (2 ^ s) = 0)
theorem only_mems : ∀ m : Nat, m < 64 → ∀ s : Nat, s < 6 → decide (andnot m (2 ^ s) = 0) = (decide ((mems m).length = 0) || (decide ((mems m).length = 1) && decide ((mems m).headD 7 = (s : Int)))) := by decide +kernel
/-- the ranks of the fixed points below some rank -/
def fpS (f : Fm) : Nat → Nat
  | 0 => 0
  | n + 1 => fpS f n ||| (msk (rk f (fpS f n)) 61 &&& 2 ^ n)
theorem fpS_lt (f : Fm) (n : Nat) : fpS f n < 2 ^ 61 := by
  induction n with
  | zero => exact (by decide : (0 : Nat) < 2 ^ 61)
  | succ n ih => exact Nat.or_lt_two_pow ih (Nat.lt_of_le_of_lt Nat.and_le_left (msk_lt _ _))
theorem fpS_bit (f : Fm) (n i : Nat) (hn : n < 61) : (fpS f (n + 1)).testBit i = ((fpS f n).testBit i || (decide (i = n) && rk f (fpS f n) n)) := by
  rw [fpS, Nat.testBit_or, Nat.testBit_and, msk_testBit, Nat.testBit_two_pow]
  by_cases h : i = n
  · subst h
    simp [hn]
  · have h' : ¬ n = i := fun e => h e.symm
    simp [h, h']
theorem fpS_out (f : Fm) (n i : Nat) (h : n ≤ i) (hn : n ≤ 61) : (fpS f n).testBit i = false := by
  induction n with
  | zero => simp [fpS]
  | succ n ih => rw [fpS_bit f n i (by omega), ih (by omega) (by omega), decide_eq_false (by omega)]; rfl
theorem fpS_msk (f : Fm) : fpS f 61 = msk (fpS f 61).testBit 61 := msk_eq 61 _ (fpS_lt f 61) fun _ _ => rfl
/- Contracts of chapter 33: guarded variables, of the program. -/
theorem Sl2.nil {α : Type} {K : Cod α} {w : World} : Sl2 K w (.slice none 0 0) ([] : List (List α)) := ⟨[], Sl.nil, rfl, fun i a => by simp at a⟩
theorem impl_isModal_yes (k : UK) (w : World) :
    Calls Tryz.prog 139 #[.int .i64 k.i] w fun e w' => e = .returned (.bool true) ∧ w = w' := by
  cases k <;> simp only [UK.i]
  all_goals
    go_enter Tryz.func139, Tryz.ntmps139
    go_wp2
    go_ret
    exact ⟨rfl, rfl⟩
theorem impl_isModal_no (k : Int) (w : World) (h : k ≤ 4) :
    Calls Tryz.prog 139 #[.int .i64 k] w fun e w' => e = .returned (.bool false) ∧ w = w' := by
  have h5 : (k == 5) = false := by rw [beq_eq_false_iff_ne]; omega
  have h6 : (k == 6) = false := by rw [beq_eq_false_iff_ne]; omega
  go_enter Tryz.func139, Tryz.ntmps139
  go_wp2
  go_ret
  exact ⟨rfl, rfl⟩
theorem impl_parts (f : Fm) (v : Value) (w : World) (h : Sl cN w v (enc f)) (hl : (enc f).length ≤ 1048576) :
    Calls Tryz.prog 146 #[v] w fun e w' => ∃ u, e = .returned u ∧ Sl2 cN w' u ((kids f).map enc) ∧ Below w.heap.size w w' := by
  cases f with
  | var s =>
    obtain ⟨A, c, rfl⟩ := h.opn
    simp only [enc, List.length_cons, List.length_nil] at h ⊢
    obtain ⟨b, o, rfl, hb, hc0, hc1⟩ := h.atN0
    go_enter Tryz.func146, Tryz.ntmps146
    go_wp2_with fail
    refine (impl_partsOf _ _).mono ?_
    rintro e w1 ⟨rfl, rfl⟩
    rw [show parts 0 = 0 from rfl]
    go_wp2
    go_ret
    exact ⟨_, rfl, Sl2.nil, Below.refl _ _⟩
  | fls =>
    obtain ⟨A, c, rfl⟩ := h.opn
    simp only [enc, List.length_cons, List.length_nil] at h ⊢
    obtain ⟨b, o, rfl, hb, hc0, hc1⟩ := h.atN0
    go_enter Tryz.func146, Tryz.ntmps146
    go_wp2_with fail
    refine (impl_partsOf _ _).mono ?_
    rintro e w1 ⟨rfl, rfl⟩
    rw [show parts 1 = 0 from rfl]
    go_wp2
    go_ret
    exact ⟨_, rfl, Sl2.nil, Below.refl _ _⟩
  | un k a =>
    rw [enc_un] at h hl
    have hf := impl_first _ _ a [] w h hl
    obtain ⟨A, c, rfl⟩ := h.opn
    obtain ⟨b, o, rfl, hb, hc0, hc1⟩ := h.atN0
    have HF := Lib.hid hf; clear hf
    have hL0 : 0 < ((k.i, (0 : Int)) :: (enc a ++ [])).length := by simp
    clear h
    generalize ((k.i, (0 : Int)) :: (enc a ++ [])).length = L at *
    go_enter Tryz.func146, Tryz.ntmps146
    go_wp2_with fail
    refine (impl_partsOf _ _).mono ?_
    rintro e w1 ⟨rfl, rfl⟩
    rw [UK.parts k]
    go_wp2_with fail
    refine HF.out.mono ?_
    rintro e w1 ⟨u, rfl, hs, rfl⟩
    obtain ⟨A2, c2, rfl⟩ := hs.opn
    have HS := Lib.hid (Sl2.one hs 26)
    clear hs
    go_wp2
    go_ret
    exact ⟨_, rfl, HS.out, (Below.refl _ _).alloc (Nat.le_refl _) _⟩
  | bin k a b =>
    rw [enc_bin] at h hl
    have hf := impl_first _ _ a _ w h hl
    have hg := impl_second _ _ a b [] w h hl
    obtain ⟨A, c, rfl⟩ := h.opn
    obtain ⟨bb, o, rfl, hb, hc0, hc1⟩ := h.atN0
    have HF := Lib.hid hf; clear hf
    have HG := Lib.hid hg; clear hg
    have hL0 : 0 < ((k.i, (0 : Int)) :: (enc a ++ (enc b ++ []))).length := by simp
    clear h
    generalize ((k.i, (0 : Int)) :: (enc a ++ (enc b ++ []))).length = L at *
    go_enter Tryz.func146, Tryz.ntmps146
    go_wp2_with fail
    refine (impl_partsOf _ _).mono ?_
    rintro e w1 ⟨rfl, rfl⟩
    rw [BK.parts k]
    go_wp2_with fail
    refine HF.out.mono ?_
    rintro e w1 ⟨u, rfl, hs, rfl⟩
    go_wp2_with fail
    refine HG.out.mono ?_
    rintro e w1 ⟨u2, rfl, hs2, rfl⟩
    obtain ⟨A2, c2, rfl⟩ := hs.opn
    obtain ⟨A3, c3, rfl⟩ := hs2.opn
    have HS := Lib.hid (Sl2.two hs hs2 26)
    clear hs hs2
    go_wp2
    go_ret
    exact ⟨_, rfl, HS.out, (Below.refl _ _).alloc (Nat.le_refl _) _⟩
theorem impl_within (a b : Nat) (w : World) (ha : a < 9223372036854775808) (hb : b < 9223372036854775808) :
    Calls Tryz.prog 108 #[.int .i64 a, .int .i64 b] w fun e w' => e = .returned (.bool (decide (andnot a b = 0))) ∧ w = w' := by
  have E := i64_andNot_nat a b ha hb
  go_enter Tryz.func108, Tryz.ntmps108
  go_wp2
  go_ret
  exact ⟨by congr 1; show Value.bool _ = Value.bool _; congr 1; rw [Bool.eq_iff_iff]; simp, rfl⟩
theorem impl_variableCode (v : Value) (xs : List Nd) (s : Int) (w : World) (h : Sl cN w v xs) (hl : xs.length ≤ 1048576) :
    Calls Tryz.prog 73 #[v, .int .i64 s] w fun e w' => e = .returned (.int .i64 (vcode xs s)) ∧ Below w.heap.size w w' := by
  cases h1 : isF xs
  · have E : Hid (vcode xs s = 1) := Lib.hid (by unfold vcode; rw [h1]; rfl)
    have H1 := Lib.hid h1; clear h1
    go_enter Tryz.func73, Tryz.ntmps73
    go_wp2_with fail
    refine (impl_isFormula _ xs _ h (by omega)).mono ?_
    rintro e w1 ⟨rfl, hb⟩
    rw [H1.out]
    have HB := Lib.hid hb; clear hb
    go_wp2
    go_ret
    exact ⟨by rw [E.out]; rfl, HB.out⟩
  · obtain ⟨k, hk⟩ : ∃ k, vcode xs s = k := ⟨_, rfl⟩
    have hk0 := hk
    unfold vcode at hk0
    rw [h1, if_pos rfl] at hk0
    have E := Lib.hid hk; clear hk
    cases h2 : inR s 0 5
    all_goals
      rw [h2] at hk0
      first | rw [if_pos rfl] at hk0 | rw [if_neg (by decide)] at hk0
      subst hk0
      have H1 := Lib.hid h1; clear h1
      have H2 := Lib.hid h2; clear h2
      go_enter Tryz.func73, Tryz.ntmps73
      go_wp2_with fail
      refine (impl_isFormula _ xs _ h (by omega)).mono ?_
      rintro e w1 ⟨rfl, hb⟩
      rw [H1.out]
      have HB := Lib.hid hb; clear hb
      go_wp2_with fail
      refine (impl_isVariable _ _).mono ?_
      rintro e w1 ⟨rfl, rfl⟩
      rw [H2.out]
      go_wp2
      go_ret
      exact ⟨by rw [E.out]; rfl, HB.out⟩
theorem spec_l33Code (v : Value) (xs : List Nd) (s : Int) (w : World) (h : Sl cN w v xs) (hl : xs.length ≤ 1048576) :
    Calls Tryz.prog 80 #[v, .int .i64 s] w fun e w' => e = .returned (.int .i64 (vcode xs s)) ∧ w = w' := by
  cases h1 : isF xs
  · have E : Hid (vcode xs s = 1) := Lib.hid (by unfold vcode; rw [h1]; rfl)
    have H1 := Lib.hid h1; clear h1
    go_enter Tryz.func80, Tryz.ntmps80
    go_wp2_with fail
    refine (spec_l02Is _ xs _ h (by omega)).mono ?_
    rintro e w1 ⟨rfl, rfl⟩
    rw [H1.out]
    go_wp2
    go_ret
    exact ⟨by rw [E.out]; rfl, rfl⟩
  · obtain ⟨k, hk⟩ : ∃ k, vcode xs s = k := ⟨_, rfl⟩
    have hk0 := hk
    unfold vcode at hk0
    rw [h1, if_pos rfl] at hk0
    have E := Lib.hid hk; clear hk
    cases h2 : inR s 0 5
    all_goals
      rw [h2] at hk0
      first | rw [if_pos rfl] at hk0 | rw [if_neg (by decide)] at hk0
      subst hk0
      have H1 := Lib.hid h1; clear h1
      have H2 := Lib.hid h2; clear h2
      go_enter Tryz.func80, Tryz.ntmps80
      go_wp2_with fail
      refine (spec_l02Is _ xs _ h (by omega)).mono ?_
      rintro e w1 ⟨rfl, rfl⟩
      rw [H1.out]
      go_wp2_with fail
      refine (spec_l01In _ _ _ _).mono ?_
      rintro e w1 ⟨rfl, rfl⟩
      rw [H2.out]
      go_wp2
      go_ret
      exact ⟨by rw [E.out]; rfl, rfl⟩
/- Contracts of chapter 33: guarded variables, of the program; slices.IndexFunc and slices.ContainsFunc at lists of nodes, by the index. -/
/-- the first index at which p holds, or -1 -/
def fidx (p : Nat → Bool) (n : Nat) : Int := match (List.range n).find? p with | some i => (i : Int) | none => -1
theorem fidx_some {p : Nat → Bool} {n j : Nat} (hj : j < n) (h : ∀ i < j, p i = false) (hp : p j = true) : fidx p n = j := by
  have hf : (List.range n).find? p = some j := by
    rw [List.find?_eq_some_iff_append]
    refine ⟨hp, List.range j, List.range' (j + 1) (n - 1 - j), ?_, fun a ha => by rw [h a (List.mem_range.1 ha)]; rfl⟩
    obtain ⟨d, hd⟩ : ∃ d, n - 1 - j = d := ⟨_, rfl⟩
    rw [hd, ← List.range'_succ, List.range_eq_range', List.range_eq_range', show n = j + (d + 1) by omega]
    have := List.range'_append (s := 0) (m := j) (n := d + 1) (step := 1)
    rw [← this]
    simp
  unfold fidx
  rw [hf]
theorem fidx_none {p : Nat → Bool} {n : Nat} (h : ∀ i < n, p i = false) : fidx p n = -1 := by
  have hf : (List.range n).find? p = none := by
    rw [List.find?_eq_none]
    intro i hi
    rw [h i (List.mem_range.1 hi)]
    decide
  unfold fidx
  rw [hf]
theorem fidx_range (p : Nat → Bool) (n : Nat) : -1 ≤ fidx p n ∧ fidx p n < n := by
  unfold fidx
  cases hf : (List.range n).find? p with
  | none => simp; omega
  | some i =>
    have := List.mem_range.1 (List.mem_of_find?_eq_some hf)
    simp
    omega
theorem fidx_any (p : Nat → Bool) (n : Nat) : decide (0 ≤ fidx p n) = (List.range n).any p := by
  cases h : (List.range n).any p
  · rw [fidx_none fun i hi => by
      have := List.any_eq_false.1 h i (List.mem_range.2 hi)
      simpa using this]
    rfl
  · have hf : ∃ j, (List.range n).find? p = some j := by
      obtain ⟨x, hx, hp⟩ := List.any_eq_true.1 h
      cases hq : (List.range n).find? p with
      | none => exact absurd hp (by have := List.find?_eq_none.1 hq x hx; exact this)
      | some j => exact ⟨j, rfl⟩
    obtain ⟨j, hj⟩ := hf
    unfold fidx
    rw [hj]
    simp
theorem any_range {α : Type} (l : List α) (d : α) (p : α → Bool) : (List.range l.length).any (fun i => p (l.getD i d)) = l.any p := by
  rw [Bool.eq_iff_iff, List.any_eq_true, List.any_eq_true]
  constructor
  · rintro ⟨i, hi, h⟩
    have hi := List.mem_range.1 hi
    rw [List.getD_eq_getElem?_getD, List.getElem?_eq_getElem hi] at h
    exact ⟨_, List.getElem_mem hi, h⟩
  · rintro ⟨x, hx, h⟩
    obtain ⟨i, hi, rfl⟩ := List.getElem_of_mem hx
    exact ⟨i, List.mem_range.2 hi, by rw [List.getD_eq_getElem?_getD, List.getElem?_eq_getElem hi]; exact h⟩
theorem slices_IndexFunc_nodes' (v : Value) (xss : List (List Nd)) (k : FuncId) (cap : Array Value) (p : Nat → Bool) (w : World) (h : Sl2 cN w v xss) (hl : xss.length ≤ 1073741824)
    (hk : ∀ (args : Array Value) (w : World), (callFunc k args).run Tryz.prog w = .ok (.enter k args) w)
    (hf : ∀ w', Below w.heap.size w w' → ∀ (u : Value) (i : Nat) (hi : i < xss.length), Sl cN w' u xss[i] → Calls Tryz.prog k (#[u] ++ cap) w' fun e w'' => e = .returned (.bool (p i)) ∧ Below w'.heap.size w' w'') :
    Calls Tryz.prog 172 #[v, .func (.func k) #[] cap] w fun e w' => e = .returned (.int .i64 (fidx p xss.length)) ∧ Below w.heap.size w w' := by
  obtain ⟨A, c, rfl⟩ := h.opn
  have HF := Lib.hid hf; clear hf
  go_enter Tryz.func172, Tryz.ntmps172
  go_wp2
  go_loopw [8] (fun i wr => ∃ j : Nat, j ≤ xss.length ∧ i = .int .i64 j ∧ (∀ i < j, p i = false) ∧ Below w.heap.size w wr) (fun i _ => xss.length - (intOf i).toNat)
  case atStart => exact ⟨0, Nat.zero_le _, rfl, fun i hi => by omega, Below.refl _ _⟩
  case round =>
    obtain ⟨j, hj, rfl, hh, hb⟩ := hrel
    have Hh := Lib.hid hh; clear hh
    by_cases hlt : j < xss.length
    · obtain ⟨b, o, Ai, ni, ci, rfl, hbl, hc0, hs⟩ := (h.below hb).at_ hlt
      have HS := Lib.hid hs; clear hs
      go_wp2_with fail
      refine (HF.out wr hb _ j hlt HS.out).mono ?_
      rintro e w1 ⟨rfl, hb1⟩
      have HB : Hid (Below w.heap.size w w1) := Lib.hid (hb.trans (hb1.mono hb.size))
      clear hb1 hb
      by_cases hp : p j = true
      · have HE := Lib.hid (fidx_some hlt Hh.out hp)
        rw [hp]
        have HP := Lib.hid hp; clear hp
        go_wp2
        go_ret
        exact ⟨by rw [HE.out]; rfl, HB.out⟩
      · rw [Bool.not_eq_true] at hp
        rw [hp]
        have HP := Lib.hid hp; clear hp
        go_wp2
        go_roundw
        case rel => exact ⟨j + 1, by omega, by go_num, fun i hi => (Nat.lt_or_ge i j).elim (fun h => Hh.out i h) (fun h => (show i = j by omega) ▸ HP.out), HB.out⟩
        case measure => simp [intOf]; omega
    · have HE : Hid (fidx p xss.length = -1) := Lib.hid (fidx_none fun i hi => Hh.out i (by omega))
      have HB := Lib.hid hb; clear hb
      go_wp2
      go_ret
      exact ⟨by rw [HE.out]; rfl, HB.out⟩
theorem slices_ContainsFunc_nodes' (v : Value) (xss : List (List Nd)) (k : FuncId) (cap : Array Value) (p : Nat → Bool) (w : World) (h : Sl2 cN w v xss) (hl : xss.length ≤ 1073741824)
    (hk : ∀ (args : Array Value) (w : World), (callFunc k args).run Tryz.prog w = .ok (.enter k args) w)
    (hf : ∀ w', Below w.heap.size w w' → ∀ (u : Value) (i : Nat) (hi : i < xss.length), Sl cN w' u xss[i] → Calls Tryz.prog k (#[u] ++ cap) w' fun e w'' => e = .returned (.bool (p i)) ∧ Below w'.heap.size w' w'') :
    Calls Tryz.prog 131 #[v, .func (.func k) #[] cap] w fun e w' => e = .returned (.bool ((List.range xss.length).any p)) ∧ Below w.heap.size w w' := by
  have HI := Lib.hid (slices_IndexFunc_nodes' v xss k cap p w h hl hk hf)
  have HR := Lib.hid (fidx_any p xss.length)
  clear h hk hf
  go_enter Tryz.func131, Tryz.ntmps131
  go_wp2_with fail
  refine HI.out.mono ?_
  rintro e w1 ⟨rfl, hb⟩
  have HB := Lib.hid hb; clear hb
  go_wp2
  go_ret
  exact ⟨by rw [← HR.out]; rfl, HB.out⟩
theorem impl_isGuarded_1 (q : Bool) (s : Nat) (B : Nat) (u : Value) (w : World) (hc : w.cell? ⟨B, 0, none⟩ = some (.int .i64 s))
    (hi : Calls Tryz.prog 86 #[u, .int .i64 s] w fun e w' => e = .returned (.bool q) ∧ Below w.heap.size w w') :
    Calls Tryz.prog 147 #[u, .pointer (some ⟨B, 0, none⟩)] w fun e w' => e = .returned (.bool (!q)) ∧ Below w.heap.size w w' := by
  have HI := Lib.hid hi; clear hi
  go_enter Tryz.func147, Tryz.ntmps147
  go_wp2_with fail
  refine HI.out.mono ?_
  rintro e w1 ⟨rfl, hb⟩
  have HB := Lib.hid hb; clear hb
  go_wp2
  go_ret
  exact ⟨rfl, HB.out⟩
theorem en_isGuarded_1 : ∀ (args : Array Value) (w : World), (callFunc 147 args).run Tryz.prog w = .ok (.enter 147 args) w := enters Tryz.func147 (by kernel_rfl) (by kernel_rfl)
theorem run_eqg_node (op : BinOp) (x y : Operand) (xs ys : Array Value) (w : World) : (eqGuard op 82 x y (.agg xs) (.agg ys)).run Tryz.prog w = .ok () w := run_eqGuard_agg w op _ x y xs ys (by kernel_rfl)
theorem run_neq_node (a b c d : Int) (w : World) : (binOp .neq 82 (.agg #[.int .i64 a, .int .i64 b]) (.agg #[.int .i64 c, .int .i64 d])).run Tryz.prog w = .ok (.bool (!(a == c && b == d))) w := by
  have u3 := Tryz.underlying2
  have hS : Tryz.prog.underlying 82 = some (.struct (Tryz.prog.fieldsOf 82)) := by kernel_rfl
  have hp : Tryz.prog.stoodInHeld 82 = false := by kernel_rfl
  rw [run_neq_struct, show (10000 : Nat) = 9999 + 1 from rfl, run_equalIn_agg w 9999 _ _ _ hS hp]
  simp only [Program.fieldsOf, Tryz.underlying82]
  go_simp
  by_cases h1 : a = c <;> by_cases h2 : b = d <;> simp [h1, h2]
theorem impl_isGuarded_var (t s : Nat) (v : Value) (w : World) (h : Sl cN w v (enc (.var t))) (hne : t = s) :
    Calls Tryz.prog 86 #[v, .int .i64 s] w fun e w' => e = .returned (.bool false) ∧ Below w.heap.size w w' := by
  subst hne
  obtain ⟨A, c, rfl⟩ := h.opn
  simp only [enc, List.length_cons, List.length_nil] at h ⊢
  obtain ⟨b, o, rfl, hb, hc0, hc1⟩ := (h.alloc (.cells #[.int .i64 (t : Int)] 2)).atN0
  have HB : Hid (Below w.heap.size w (w.alloc (.cells #[.int .i64 (t : Int)] 2))) := Lib.hid ((Below.refl _ _).alloc (Nat.le_refl _) _)
  go_enter Tryz.func86, Tryz.ntmps86
  go_wp2_with fail
  refine (impl_isModal_no _ _ (by omega)).mono ?_
  rintro e w1 ⟨rfl, rfl⟩
  go_wp2_with fail
  go_quiet (fail)
  go_wp2
  go_ret
  exact ⟨rfl, below_drewN HB.out _⟩
theorem impl_isGuarded_modal (k : UK) (a : Fm) (s : Nat) (v : Value) (w : World) (h : Sl cN w v (enc (.un k a))) :
    Calls Tryz.prog 86 #[v, .int .i64 s] w fun e w' => e = .returned (.bool true) ∧ Below w.heap.size w w' := by
  rw [enc_un] at h
  obtain ⟨A, c, rfl⟩ := h.opn
  obtain ⟨b, o, rfl, hb, hc0, hc1⟩ := (h.alloc (.cells #[.int .i64 (s : Int)] 2)).atN0
  have hL0 : 0 < ((k.i, (0 : Int)) :: (enc a ++ [])).length := by simp
  have HB : Hid (Below w.heap.size w (w.alloc (.cells #[.int .i64 (s : Int)] 2))) := Lib.hid ((Below.refl _ _).alloc (Nat.le_refl _) _)
  clear h
  generalize ((k.i, (0 : Int)) :: (enc a ++ [])).length = L at *
  go_enter Tryz.func86, Tryz.ntmps86
  go_wp2_with fail
  refine (impl_isModal_yes _ _).mono ?_
  rintro e w1 ⟨rfl, rfl⟩
  go_wp2
  go_ret
  exact ⟨rfl, HB.out⟩
def kidBad (f : Fm) (s i : Nat) : Bool := !gd ((kids f).getD i .fls) s
theorem kids_all (f : Fm) (s : Nat) : (!(List.range (kids f).length).any (kidBad f s)) = (kids f).all fun g => gd g s := by
  have h := any_range (kids f) .fls (fun g => !gd g s)
  rw [show (List.range (kids f).length).any (kidBad f s) = (kids f).any fun g => !gd g s from h, List.any_eq_not_all_not, Bool.not_not]
  congr 1
  funext g
  rw [Bool.not_not]
theorem kids_length (f : Fm) : (kids f).length ≤ 2 := by cases f <;> simp [kids]
theorem ih_kid {f : Fm} {s : Nat} (H : Hid (∀ g ∈ kids f, ∀ (v : Value) (w : World), Sl cN w v (enc g) → Calls Tryz.prog 86 #[v, .int .i64 s] w fun e w' => e = .returned (.bool (gd g s)) ∧ Below w.heap.size w w'))
    {i : Nat} (hi : i < ((kids f).map enc).length) {u : Value} {W : World} (hu : Sl cN W u ((kids f).map enc)[i]) :
    Calls Tryz.prog 86 #[u, .int .i64 s] W fun e w' => e = .returned (.bool (gd ((kids f).getD i .fls) s)) ∧ Below W.heap.size W w' := by
  have hi' : i < (kids f).length := by simpa using hi
  rw [List.getElem_map] at hu
  rw [List.getD_eq_getElem?_getD, List.getElem?_eq_getElem hi']
  exact H.out _ (List.getElem_mem hi') u W hu
set_option maxRecDepth 100000 in
theorem impl_isGuarded_go (f : Fm) (s : Nat) (x : Nd) (t : List Nd) (he : enc f = x :: t) (hk : x.1 ≤ 4) (hne : ¬ (x.1 = 0 ∧ x.2 = s))
    (ih : ∀ g ∈ kids f, ∀ (v : Value) (w : World), Sl cN w v (enc g) → Calls Tryz.prog 86 #[v, .int .i64 s] w fun e w' => e = .returned (.bool (gd g s)) ∧ Below w.heap.size w w')
    (v : Value) (w : World) (h : Sl cN w v (enc f)) (hl : (enc f).length ≤ 1048576) :
    Calls Tryz.prog 86 #[v, .int .i64 s] w fun e w' => e = .returned (.bool ((kids f).all fun g => gd g s)) ∧ Below w.heap.size w w' := by
  have hp := fun (W : World) (hW : Sl cN W v (enc f)) => impl_parts f v W hW hl
  obtain ⟨A, c, rfl⟩ := h.opn
  have h' := h
  rw [he] at h'
  obtain ⟨b, o, rfl, hb, hc0, hc1⟩ := (h'.alloc (.cells #[.int .i64 (s : Int)] 2)).atN0
  have hL0 : 0 < (enc f).length := enc_pos f
  have HB : Hid (Below w.heap.size w (w.alloc (.cells #[.int .i64 (s : Int)] 2))) := Lib.hid ((Below.refl _ _).alloc (Nat.le_refl _) _)
  have HH := Lib.hid (h.alloc (.cells #[.int .i64 (s : Int)] 2))
  have K0 := Bk.new w #[.int .i64 (s : Int)] 2
  have HP := Lib.hid hp; clear hp
  have HI := Lib.hid ih; clear ih
  have HC := Lib.hid (fun (W1 : World) (u : Value) (hs : Sl2 cN W1 u ((kids f).map enc)) (hc : W1.cell? ⟨w.heap.size, 0, none⟩ = some (.int .i64 s)) (hlt : w.heap.size < W1.heap.size) =>
    slices_ContainsFunc_nodes' u _ 147 #[.pointer (some ⟨w.heap.size, 0, none⟩)] (kidBad f s) W1 hs (by rw [List.length_map]; have := kids_length f; omega) en_isGuarded_1 (fun W hW u' i hi hu => by
      rw [show (#[u'] ++ #[Value.pointer (some ⟨w.heap.size, 0, none⟩)] : Array Value) = #[u', .pointer (some ⟨w.heap.size, 0, none⟩)] from rfl]
      exact impl_isGuarded_1 _ s w.heap.size u' W ((hW.cell (p := ⟨w.heap.size, 0, none⟩) hlt).trans hc) (ih_kid HI hi hu)))
  have E := Lib.hid (kids_all f s)
  clear h h' he
  generalize hLL : (enc f).length = L at *
  clear hLL
  obtain ⟨x1, x2⟩ := x
  simp only at hk hne hc0 hc1
  go_enter Tryz.func86, Tryz.ntmps86
  go_wp2_with fail
  refine (impl_isModal_no _ _ hk).mono ?_
  rintro e w1 ⟨rfl, rfl⟩
  go_wp2_with fail
  have c0 : (w.alloc (.cells #[.int .i64 (s : Int)] 2)).cell? ⟨w.heap.size, 0, none⟩ = some (.int .i64 s) := K0.2 0
  have hbs := K0.1
  have hne1 : (x1 == 0 && x2 == (s : Int)) = false := by
    rw [Bool.eq_false_iff]
    intro h
    simp only [Bool.and_eq_true, beq_iff_eq] at h
    exact hne h
  clear hne
  have hnq := run_neq_node x1 x2 0 s
  have hng := run_eqg_node
  simp only [hne1, Bool.not_false] at hnq
  clear hne1
  go_region_held3 (fun w' => w'.cell? ⟨b, o, none⟩ = some (.int .i64 x1) ∧ w'.cell? ⟨b, o + 1, none⟩ = some (.int .i64 x2) ∧ w'.cell? ⟨w.heap.size, 0, none⟩ = some (.int .i64 s)) (first | exact ⟨d0'', d1'', c0''⟩ | exact ⟨d0', d1', c0'⟩ | exact ⟨hc0, hc1, c0⟩ | (simp [*]; done)) (first | (go_at_call 146; refine (HP.out _ (HH.out.below (below_drewN (Below.refl _ _) 1))).mono ?_; rintro e w1 ⟨u, rfl, hs, hbP⟩; have hbP1 : Below (w.alloc (.cells #[.int .i64 (s : Int)] 2)).heap.size (w.alloc (.cells #[.int .i64 (s : Int)] 2)) w1 := (below_drewN (Below.refl _ _) 1).trans hbP; have d0' := (hbP1.cell (p := ⟨b, o, none⟩) hb).trans hc0; have d1' := (hbP1.cell (p := ⟨b, o + 1, none⟩) hb).trans hc1; have c0' := (hbP1.cell (p := ⟨w.heap.size, 0, none⟩) hbs).trans c0; have hlt' := Nat.lt_of_lt_of_le hbs hbP1.size) | (go_at_call 131; refine (HC.out _ _ hs c0' hlt').mono ?_; rintro e w2 ⟨rfl, hbQ⟩; have d0'' := (hbQ.cell (p := ⟨b, o, none⟩) (Nat.lt_of_lt_of_le hb hbP1.size)).trans d0'; have d1'' := (hbQ.cell (p := ⟨b, o + 1, none⟩) (Nat.lt_of_lt_of_le hb hbP1.size)).trans d1'; have c0'' := (hbQ.cell (p := ⟨w.heap.size, 0, none⟩) hlt').trans c0'))
  all_goals
    have HF := Lib.hid (HB.out.trans ((bthen hbP1 hbQ).mono HB.out.size))
    clear d0' d1' c0' hlt' d0'' d1'' c0'' hbP hbP1 hbQ hs hng hnq hc0 hc1 c0
    go_wp2
    go_ret
    exact ⟨by rw [← E.out]; rfl, HF.out⟩
theorem impl_isGuarded (f : Fm) (s : Nat) : ∀ (v : Value) (w : World), Sl cN w v (enc f) → (enc f).length ≤ 1048576 →
    Calls Tryz.prog 86 #[v, .int .i64 s] w fun e w' => e = .returned (.bool (gd f s)) ∧ Below w.heap.size w w' := by
  induction f with
  | var t =>
    intro v w h hl
    by_cases hts : t = s
    · rw [show gd (.var t) s = false by simp [gd, hts]]
      exact impl_isGuarded_var t s v w h hts
    · have := impl_isGuarded_go (.var t) s (0, (t : Int)) [] rfl (by simp) (by simp; omega) (fun g hg => by simp [kids] at hg) v w h hl
      rw [show gd (.var t) s = true by simp [gd, hts]]
      simpa [kids] using this
  | fls =>
    intro v w h hl
    have := impl_isGuarded_go .fls s (1, 0) [] rfl (by decide) (by simp) (fun g hg => by simp [kids] at hg) v w h hl
    simpa [kids, gd] using this
  | un k a ih => intro v w h hl; exact impl_isGuarded_modal k a s v w h
  | bin k a b iha ihb =>
    intro v w h hl
    have hl2 : (enc a).length ≤ 1048576 := by simp [enc] at hl; omega
    have hl3 : (enc b).length ≤ 1048576 := by simp [enc] at hl; omega
    have := impl_isGuarded_go (.bin k a b) s (k.i, 0) (enc a ++ enc b) rfl (by cases k <;> decide) (by cases k <;> simp [BK.i]) (fun g hg u W hu => by
      simp only [kids, List.mem_cons, List.not_mem_nil, or_false] at hg
      rcases hg with rfl | rfl
      · exact iha u W hu hl2
      · exact ihb u W hu hl3) v w h hl
    simpa [kids, gd] using this
/- Contracts of chapter 33: guarded variables, of the reference. -/
theorem drop_split {α : Type} {xs ys zs : List α} {j : Nat} (h : xs.drop j = ys ++ zs) : xs.drop (j + ys.length) = zs := by
  rw [← List.drop_drop, h, List.drop_left]
theorem drop_lt {α : Type} {xs : List α} {j : Nat} {y : α} {ys : List α} (h : xs.drop j = y :: ys) : ∃ hj : j < xs.length, xs[j] = y := by
  have hj : j < xs.length := by
    rcases Nat.lt_or_ge j xs.length with h1 | h1
    · exact h1
    · rw [List.drop_of_length_le h1] at h; cases h
  refine ⟨hj, ?_⟩
  rw [List.drop_eq_getElem_cons hj] at h
  exact (List.cons.inj h).1
theorem spec_l03Guarded (f : Fm) (s : Nat) (v : Value) (w : World) (h : Sl cN w v (enc f)) (hl : (enc f).length ≤ 1048576) :
    Calls Tryz.prog 88 #[v, .int .i64 s] w fun e w' => e = .returned (.bool (gd f s)) ∧ w = w' := by
  obtain ⟨A, c, rfl⟩ := h.opn
  go_enter Tryz.func88, Tryz.ntmps88
  go_wp2
  go_loop [5] (fun i => ∃ (j : Nat) (fs : List Fm), j ≤ (enc f).length ∧ i = .int .i64 j ∧ (enc f).drop j = fs.flatMap enc ∧ gd f s = fs.all fun g => gd g s) (fun i => (enc f).length - (intOf i).toNat)
  case atStart => exact ⟨0, [f], Nat.zero_le _, rfl, by simp, by simp⟩
  case round =>
    obtain ⟨j, fs, hj, rfl, hd, hg⟩ := hrel
    cases fs with
    | nil =>
      have hj2 : ¬ j < (enc f).length := by
        intro hlt
        rw [List.drop_eq_getElem_cons hlt] at hd
        cases hd
      have HG : Hid (gd f s = true) := Lib.hid (by rw [hg]; rfl)
      clear hd hg
      go_wp2
      go_ret
      exact ⟨by rw [HG.out]; rfl, rfl⟩
    | cons g gs =>
      rw [List.flatMap_cons] at hd
      have hgl := congrArg List.length hd
      rw [List.length_drop, List.length_append] at hgl
      cases g with
      | var t =>
        obtain ⟨hlt, hx⟩ := drop_lt hd
        have HD := Lib.hid (drop_split hd); clear hd
        obtain ⟨b, o, rfl, hb, hc0, hc1⟩ := h.atN hlt
        rw [hx] at hc0 hc1
        by_cases ht : t = s
        · have HG : Hid (gd f s = false) := Lib.hid (by rw [hg]; simp [gd, ht])
          subst ht
          clear hg hx
          go_wp2
          go_ret
          exact ⟨by rw [HG.out]; rfl, rfl⟩
        · have HG : Hid (gd f s = gs.all fun g => gd g s) := Lib.hid (by rw [hg]; simp [gd, ht])
          have ht' : (((t : Nat) : Int) == (s : Int)) = false := by rw [beq_eq_false_iff_ne]; omega
          clear hg hx ht
          go_wp2_with fail
          refine (spec_l02Parts _ _).mono ?_
          rintro e w1 ⟨rfl, rfl⟩
          rw [show parts 0 = 0 from rfl]
          go_wp2
          go_round
          case rel => exact ⟨j + 1, gs, by omega, by go_num, HD.out, HG.out⟩
          case measure => simp [intOf]; omega
      | fls =>
        obtain ⟨hlt, hx⟩ := drop_lt hd
        have HD := Lib.hid (drop_split hd); clear hd
        obtain ⟨b, o, rfl, hb, hc0, hc1⟩ := h.atN hlt
        rw [hx] at hc0 hc1
        have HG : Hid (gd f s = gs.all fun g => gd g s) := Lib.hid (by rw [hg]; simp [gd])
        clear hg hx
        go_wp2_with fail
        refine (spec_l02Parts _ _).mono ?_
        rintro e w1 ⟨rfl, rfl⟩
        rw [show parts 1 = 0 from rfl]
        go_wp2
        go_round
        case rel => exact ⟨j + 1, gs, by omega, by go_num, HD.out, HG.out⟩
        case measure => simp [intOf]; omega
      | bin k a d =>
        obtain ⟨hlt, hx⟩ := drop_lt hd
        have HD : Hid ((enc f).drop (j + 1) = (a :: d :: gs).flatMap enc) := by
          show _ = _
          have := drop_split (ys := [(k.i, (0 : Int))]) (zs := enc a ++ enc d ++ gs.flatMap enc) (by rw [hd]; rfl)
          rw [List.length_singleton] at this
          rw [this]
          simp
        clear hd
        obtain ⟨b, o, rfl, hb, hc0, hc1⟩ := h.atN hlt
        rw [hx] at hc0 hc1
        have HG : Hid (gd f s = (a :: d :: gs).all fun g => gd g s) := Lib.hid (by rw [hg]; simp [gd, Bool.and_assoc])
        have hk0 : ((k.i : Int) == 0) = false := by cases k <;> rfl
        clear hg hx
        go_wp2_with fail
        refine (spec_l02Parts _ _).mono ?_
        rintro e w1 ⟨rfl, rfl⟩
        rw [BK.parts k]
        go_wp2
        go_round
        case rel => exact ⟨j + 1, a :: d :: gs, by omega, by go_num, HD.out, HG.out⟩
        case measure => simp [intOf]; omega
      | un k a =>
        have hpe : pe ((enc f).drop j) 1 j = j + (enc (.un k a)).length := by rw [hd]; exact pe_enc1 _ _ _
        have HP := Lib.hid hpe; clear hpe
        obtain ⟨hlt, hx⟩ := drop_lt hd
        have HD := Lib.hid (drop_split hd); clear hd
        obtain ⟨b, o, rfl, hb, hc0, hc1⟩ := h.atN hlt
        rw [hx] at hc0 hc1
        have HG : Hid (gd f s = gs.all fun g => gd g s) := Lib.hid (by rw [hg]; simp [gd])
        have hk0 : ((k.i : Int) == 0) = false := by cases k <;> rfl
        have hpos := enc_pos (.un k a)
        clear hg hx
        go_wp2_with fail
        refine (spec_l02Parts _ _).mono ?_
        rintro e w1 ⟨rfl, rfl⟩
        rw [UK.parts k]
        go_wp2_with fail
        refine (spec_l02Part _ _ j _ h (by omega) (by omega)).mono ?_
        rintro e w1 ⟨rfl, rfl⟩
        rw [HP.out]
        go_wp2
        go_round
        case rel => exact ⟨j + (enc (.un k a)).length, gs, by omega, by go_num, HD.out, HG.out⟩
        case measure => simp [intOf]; omega
/- Contracts of chapter 33: the row of a formula below a box or a diamond, and of False. Written by gen33r.py out of the texts on l32Row. -/
def rowOf (s : Nat) : List Bool := (List.range 61).map s.testBit
theorem rowOf_length (s : Nat) : (rowOf s).length = 61 := by simp [rowOf]
def rowv (s : Nat) (f : Fm) : List Bool := (List.range 61).map (rk f s)
theorem rowv_length (s : Nat) (f : Fm) : (rowv s f).length = 61 := by simp [rowv]
theorem rowv_get (s : Nat) (f : Fm) (j : Nat) (h : j < (rowv s f).length) : (rowv s f)[j] = rk f s j := by simp [rowv]
set_option maxRecDepth 100000 in
theorem spec_l33Row_box (s : Nat) (a : Fm) (ih : ∀ (v r : Value) (w : World), Sl cN w v (enc a) → Sl cB w r (rowOf s) → Calls Tryz.prog 187 #[v, r] w fun e w' => ∃ u, e = .returned u ∧ Ow cB 4 w.heap.size w' u (rowv s a) ∧ Below w.heap.size w w')
    (v r : Value) (w : World) (hr : Sl cB w r (rowOf s)) (h : Sl cN w v (enc (.un .box a))) (hl : (enc (.un .box a)).length ≤ 1048576) :
    Calls Tryz.prog 187 #[v, r] w fun e w' => ∃ u, e = .returned u ∧ Ow cB 4 w.heap.size w' u (rowv s (.un .box a)) ∧ Below w.heap.size w w' := by
  rw [enc_un] at h hl
  obtain ⟨A, c, rfl⟩ := h.opn
  obtain ⟨A0, c0, rfl⟩ := hr.opn
  rw [rowOf_length] at hr ⊢
  obtain ⟨-, hcap, hm⟩ := h.cap
  obtain ⟨b, o, rfl, hb, hc0, hc1⟩ := h.atN0
  simp only [UK.i] at hc0
  have hL0 : 1 < ((UK.box.i, (0 : Int)) :: (enc a ++ [])).length := by have := enc_pos a; simp; omega
  have hcut := h.cutAt (A' := some ⟨b, o + 2, none⟩) (n' := ((UK.box.i, (0 : Int)) :: (enc a ++ [])).length - 1) (i := 1) (j := ((UK.box.i, (0 : Int)) :: (enc a ++ [])).length) (c' := c - 1) (by omega) (by omega) rfl
    (fun b' o' hA => by injection hA with hA; injection hA with h1 h2 _; subst h1; subst h2; rfl) (by omega) (by omega)
  have e1 : List.take (((UK.box.i, (0 : Int)) :: (enc a ++ [])).length - 1) (List.drop 1 ((UK.box.i, (0 : Int)) :: (enc a ++ []))) = enc a := by simp
  rw [e1] at hcut
  clear e1 h
  generalize ((UK.box.i, (0 : Int)) :: (enc a ++ [])).length = L at *
  have HIH := Lib.hid ih; clear ih
  go_enter Tryz.func187, Tryz.ntmps187
  go_wp2_with (at_make; refine stopHere ?_)
  refine goHere ?_
  refine mk_full (K := cB) w ty_bool rfl _ _ rfl w.heap.size 61 false rfl rfl rfl (by omega) (Nat.le_refl _) ?_
  intro w1 ho1 hg1 hb1 hsz1
  have hd0 : w1.cell? ⟨b, o, none⟩ = some (.int .i64 5) := (hb1.cell (p := ⟨b, o, none⟩) hb).trans hc0
  have hcut1 := hcut.below hb1
  have hr1 := hr.below hb1
  have hbl : b < w1.heap.size := by omega
  have i1 : (1 : Int) ≤ (L : Int) := by omega
  have i2 : (0 : Int) < (L : Int) := by omega
  have i3 : 0 < L := by omega
  have i4 : ¬ c = 1 := by omega
  go_wp2
  go_region_held3 (fun w' => w'.cell? ⟨b, o, none⟩ = some (.int .i64 5)) (first | exact hd0 | (simp [*]; done)) (first | (go_at_call 187; refine (HIH.out _ _ _ (hcut1.below (below_drewN (Below.refl _ _) 1)) (hr1.below (below_drewN (Below.refl _ _) 1))).mono ?_; rintro e w2 ⟨u, rfl, ho2, hb2⟩; have hd2 : w2.cell? ⟨b, o, none⟩ = some (.int .i64 5) := (hb2.cell (p := ⟨b, o, none⟩) hbl).trans hd0))
  have ho3 : Ow cB 4 w1.heap.size w2 u (rowv s a) := ho2
  have hb3 : Below w1.heap.size w1 w2 := (below_drewN (Below.refl _ _) 1).trans hb2
  have ho1' := ho1.below hb3
  have hB2 : Below w.heap.size w w2 := bthen hb1 hb3
  obtain ⟨A2, c2, rfl⟩ := ho3.opn
  clear hd0 hd2 hr1 hr hcut1 hcut hc0 hc1 ho2 hb2 ho1 hg1 hb1 hb3 i1 i2 i3 i4 HIH
  rw [rowv_length] at ho3 ⊢
  go_wp2
  go_loopw [8, 9] (fun q i wr => ∃ j : Nat, j ≤ 61 ∧ i = .int .i64 j ∧ q = .bool ((List.range j).all (rk a s)) ∧ Ow cB 4 w.heap.size wr (.slice (some ⟨w.heap.size, 0, none⟩) 61 61) ((List.range j).map (rk (.un .box a) s) ++ List.replicate (61 - j) false) ∧ Ow cB 4 w1.heap.size wr (.slice A2 61 c2) (rowv s a) ∧ Below w.heap.size w wr) (fun _ i _ => 61 - (intOf i).toNat)
  case atStart => exact ⟨0, by omega, rfl, rfl, ho1', ho3, hB2⟩
  case round =>
    obtain ⟨j, hj, rfl, rfl, ho, hi, hb⟩ := hrel
    by_cases hlt : j < 61
    · obtain ⟨g2, rfl, hg2, hg2'⟩ := hi.head (by rw [rowv_length]; omega)
      obtain ⟨hx, -, -, -⟩ := hi.at1 rfl (j := j) (by rw [rowv_length]; exact hlt) rfl
      rw [rowv_get] at hx
      obtain ⟨hc1, hf1, -, hg1'⟩ := ho.at1 rfl (j := j) (by simp; omega) rfl
      obtain ⟨old, hc1⟩ : ∃ old, wr.cell? ⟨w.heap.size, j, none⟩ = some old := ⟨_, hc1⟩
      have hset := ho.set1 (j := j) (x := rk (.un .box a) s j) (u := .bool ((List.range j).all (rk a s))) rfl rfl (by simp; omega)
      rw [set_map_replicate _ _ _ _ hlt] at hset
      have hi2 := hi.setBelow (p := ⟨w.heap.size, j, none⟩) hsz1 (.bool ((List.range j).all (rk a s)))
      have hne : ¬ g2 = w.heap.size := by omega
      have HS := Lib.hid hset
      have HI := Lib.hid hi2
      have HB := Lib.hid (hb.setCell (p := ⟨w.heap.size, j, none⟩) (Nat.le_refl _) (.bool ((List.range j).all (rk a s))))
      have HA : Hid ((List.range (j + 1)).all (rk a s) = ((List.range j).all (rk a s) && rk a s j)) := by
        show _ = _
        rw [List.range_succ, List.all_append]; simp
      clear ho hi hb hset hi2
      generalize hq : (List.range j).all (rk a s) = q at *
      have HQ := Lib.hid hq; clear hq
      by_cases hr : rk a s j = true
      · rw [hr] at hx HA
        clear hr
        go_wp2
        go_roundw
        case rel => exact ⟨j + 1, by omega, by go_num, by rw [HA.out, Bool.and_true], HS.out, HI.out, HB.out⟩
        case measure => simp [intOf]; omega
      · rw [Bool.not_eq_true] at hr
        rw [hr] at hx HA
        clear hr
        go_wp2
        go_roundw
        case rel => exact ⟨j + 1, by omega, by go_num, by rw [HA.out, Bool.and_false], HS.out, HI.out, HB.out⟩
        case measure => simp [intOf]; omega
    · obtain rfl : j = 61 := by omega
      rw [Nat.sub_self, List.replicate_zero, List.append_nil] at ho
      have HO : Hid (Ow cB 4 w.heap.size wr (.slice (some ⟨w.heap.size, 0, none⟩) 61 61) (rowv s (.un .box a))) := ho
      have HB := Lib.hid hb
      clear ho hb hi
      go_wp2
      go_ret
      exact ⟨_, rfl, HO.out, HB.out⟩
set_option maxRecDepth 100000 in
theorem spec_l33Row_dia (s : Nat) (a : Fm) (ih : ∀ (v r : Value) (w : World), Sl cN w v (enc a) → Sl cB w r (rowOf s) → Calls Tryz.prog 187 #[v, r] w fun e w' => ∃ u, e = .returned u ∧ Ow cB 4 w.heap.size w' u (rowv s a) ∧ Below w.heap.size w w')
    (v r : Value) (w : World) (hr : Sl cB w r (rowOf s)) (h : Sl cN w v (enc (.un .dia a))) (hl : (enc (.un .dia a)).length ≤ 1048576) :
    Calls Tryz.prog 187 #[v, r] w fun e w' => ∃ u, e = .returned u ∧ Ow cB 4 w.heap.size w' u (rowv s (.un .dia a)) ∧ Below w.heap.size w w' := by
  rw [enc_un] at h hl
  obtain ⟨A, c, rfl⟩ := h.opn
  obtain ⟨A0, c0, rfl⟩ := hr.opn
  rw [rowOf_length] at hr ⊢
  obtain ⟨-, hcap, hm⟩ := h.cap
  obtain ⟨b, o, rfl, hb, hc0, hc1⟩ := h.atN0
  simp only [UK.i] at hc0
  have hL0 : 1 < ((UK.dia.i, (0 : Int)) :: (enc a ++ [])).length := by have := enc_pos a; simp; omega
  have hcut := h.cutAt (A' := some ⟨b, o + 2, none⟩) (n' := ((UK.dia.i, (0 : Int)) :: (enc a ++ [])).length - 1) (i := 1) (j := ((UK.dia.i, (0 : Int)) :: (enc a ++ [])).length) (c' := c - 1) (by omega) (by omega) rfl
    (fun b' o' hA => by injection hA with hA; injection hA with h1 h2 _; subst h1; subst h2; rfl) (by omega) (by omega)
  have e1 : List.take (((UK.dia.i, (0 : Int)) :: (enc a ++ [])).length - 1) (List.drop 1 ((UK.dia.i, (0 : Int)) :: (enc a ++ []))) = enc a := by simp
  rw [e1] at hcut
  clear e1 h
  generalize ((UK.dia.i, (0 : Int)) :: (enc a ++ [])).length = L at *
  have HIH := Lib.hid ih; clear ih
  go_enter Tryz.func187, Tryz.ntmps187
  go_wp2_with (at_make; refine stopHere ?_)
  refine goHere ?_
  refine mk_full (K := cB) w ty_bool rfl _ _ rfl w.heap.size 61 false rfl rfl rfl (by omega) (Nat.le_refl _) ?_
  intro w1 ho1 hg1 hb1 hsz1
  have hd0 : w1.cell? ⟨b, o, none⟩ = some (.int .i64 6) := (hb1.cell (p := ⟨b, o, none⟩) hb).trans hc0
  have hcut1 := hcut.below hb1
  have hr1 := hr.below hb1
  have hbl : b < w1.heap.size := by omega
  have i1 : (1 : Int) ≤ (L : Int) := by omega
  have i2 : (0 : Int) < (L : Int) := by omega
  have i3 : 0 < L := by omega
  have i4 : ¬ c = 1 := by omega
  go_wp2
  go_region_held3 (fun w' => w'.cell? ⟨b, o, none⟩ = some (.int .i64 6)) (first | exact hd0 | (simp [*]; done)) (first | (go_at_call 187; refine (HIH.out _ _ _ (hcut1.below (below_drewN (Below.refl _ _) 1)) (hr1.below (below_drewN (Below.refl _ _) 1))).mono ?_; rintro e w2 ⟨u, rfl, ho2, hb2⟩; have hd2 : w2.cell? ⟨b, o, none⟩ = some (.int .i64 6) := (hb2.cell (p := ⟨b, o, none⟩) hbl).trans hd0))
  have ho3 : Ow cB 4 w1.heap.size w2 u (rowv s a) := ho2
  have hb3 : Below w1.heap.size w1 w2 := (below_drewN (Below.refl _ _) 1).trans hb2
  have ho1' := ho1.below hb3
  have hB2 : Below w.heap.size w w2 := bthen hb1 hb3
  obtain ⟨A2, c2, rfl⟩ := ho3.opn
  clear hd0 hd2 hr1 hr hcut1 hcut hc0 hc1 ho2 hb2 ho1 hg1 hb1 hb3 i1 i2 i3 i4 HIH
  rw [rowv_length] at ho3 ⊢
  go_wp2
  go_loopw [8, 9] (fun q i wr => ∃ j : Nat, j ≤ 61 ∧ i = .int .i64 j ∧ q = .bool ((List.range j).any (rk a s)) ∧ Ow cB 4 w.heap.size wr (.slice (some ⟨w.heap.size, 0, none⟩) 61 61) ((List.range j).map (rk (.un .dia a) s) ++ List.replicate (61 - j) false) ∧ Ow cB 4 w1.heap.size wr (.slice A2 61 c2) (rowv s a) ∧ Below w.heap.size w wr) (fun _ i _ => 61 - (intOf i).toNat)
  case atStart => exact ⟨0, by omega, rfl, rfl, ho1', ho3, hB2⟩
  case round =>
    obtain ⟨j, hj, rfl, rfl, ho, hi, hb⟩ := hrel
    by_cases hlt : j < 61
    · obtain ⟨g2, rfl, hg2, hg2'⟩ := hi.head (by rw [rowv_length]; omega)
      obtain ⟨hx, -, -, -⟩ := hi.at1 rfl (j := j) (by rw [rowv_length]; exact hlt) rfl
      rw [rowv_get] at hx
      obtain ⟨hc1, hf1, -, hg1'⟩ := ho.at1 rfl (j := j) (by simp; omega) rfl
      obtain ⟨old, hc1⟩ : ∃ old, wr.cell? ⟨w.heap.size, j, none⟩ = some old := ⟨_, hc1⟩
      have hset := ho.set1 (j := j) (x := rk (.un .dia a) s j) (u := .bool ((List.range j).any (rk a s))) rfl rfl (by simp; omega)
      rw [set_map_replicate _ _ _ _ hlt] at hset
      have hi2 := hi.setBelow (p := ⟨w.heap.size, j, none⟩) hsz1 (.bool ((List.range j).any (rk a s)))
      have hne : ¬ g2 = w.heap.size := by omega
      have HS := Lib.hid hset
      have HI := Lib.hid hi2
      have HB := Lib.hid (hb.setCell (p := ⟨w.heap.size, j, none⟩) (Nat.le_refl _) (.bool ((List.range j).any (rk a s))))
      have HA : Hid ((List.range (j + 1)).any (rk a s) = ((List.range j).any (rk a s) || rk a s j)) := by
        show _ = _
        rw [List.range_succ, List.any_append]; simp
      clear ho hi hb hset hi2
      generalize hq : (List.range j).any (rk a s) = q at *
      have HQ := Lib.hid hq; clear hq
      by_cases hr : rk a s j = true
      · rw [hr] at hx HA
        clear hr
        go_wp2
        go_roundw
        case rel => exact ⟨j + 1, by omega, by go_num, by rw [HA.out, Bool.or_true], HS.out, HI.out, HB.out⟩
        case measure => simp [intOf]; omega
      · rw [Bool.not_eq_true] at hr
        rw [hr] at hx HA
        clear hr
        go_wp2
        go_roundw
        case rel => exact ⟨j + 1, by omega, by go_num, by rw [HA.out, Bool.or_false], HS.out, HI.out, HB.out⟩
        case measure => simp [intOf]; omega
    · obtain rfl : j = 61 := by omega
      rw [Nat.sub_self, List.replicate_zero, List.append_nil] at ho
      have HO : Hid (Ow cB 4 w.heap.size wr (.slice (some ⟨w.heap.size, 0, none⟩) 61 61) (rowv s (.un .dia a))) := ho
      have HB := Lib.hid hb
      clear ho hb hi
      go_wp2
      go_ret
      exact ⟨_, rfl, HO.out, HB.out⟩
set_option maxRecDepth 100000 in
theorem spec_l33Row_fls (s : Nat) (v r : Value) (w : World) (hr : Sl cB w r (rowOf s)) (h : Sl cN w v (enc .fls)) :
    Calls Tryz.prog 187 #[v, r] w fun e w' => ∃ u, e = .returned u ∧ Ow cB 4 w.heap.size w' u (rowv s .fls) ∧ Below w.heap.size w w' := by
  obtain ⟨A, c, rfl⟩ := h.opn
  obtain ⟨A0, c0, rfl⟩ := hr.opn
  rw [rowOf_length] at hr ⊢
  obtain ⟨b, o, rfl, hb, hc0, hc1⟩ := h.atN0
  simp only [enc, List.length_cons, List.length_nil]
  go_enter Tryz.func187, Tryz.ntmps187
  go_wp2_with (at_make; refine stopHere ?_)
  refine goHere ?_
  refine mk_full (K := cB) w ty_bool rfl _ _ rfl w.heap.size 61 false rfl rfl rfl (by omega) (Nat.le_refl _) ?_
  intro w1 ho1 hg1 hb1 hsz1
  have hd0 : w1.cell? ⟨b, o, none⟩ = some (.int .i64 1) := (hb1.cell (p := ⟨b, o, none⟩) hb).trans hc0
  have HO : Hid (Ow cB 4 w.heap.size w1 (.slice (some ⟨w.heap.size, 0, none⟩) 61 61) (rowv s .fls)) := ho1
  have HB := Lib.hid hb1
  clear ho1 hb1 h hc0 hc1
  go_wp2
  go_ret
  exact ⟨_, rfl, HO.out, HB.out⟩
/- Contracts of chapter 33: the row of a formula with two parts. Written by gen33r.py out of the texts on l32Row. -/
set_option maxRecDepth 100000 in
theorem spec_l33Row_and (s : Nat) (a b : Fm) (iha : ∀ (v r : Value) (w : World), Sl cN w v (enc a) → Sl cB w r (rowOf s) → Calls Tryz.prog 187 #[v, r] w fun e w' => ∃ u, e = .returned u ∧ Ow cB 4 w.heap.size w' u (rowv s a) ∧ Below w.heap.size w w')
    (ihb : ∀ (v r : Value) (w : World), Sl cN w v (enc b) → Sl cB w r (rowOf s) → Calls Tryz.prog 187 #[v, r] w fun e w' => ∃ u, e = .returned u ∧ Ow cB 4 w.heap.size w' u (rowv s b) ∧ Below w.heap.size w w')
    (v r : Value) (w : World) (hr : Sl cB w r (rowOf s)) (h : Sl cN w v (enc (.bin .and a b))) (hl : (enc (.bin .and a b)).length ≤ 1048576) :
    Calls Tryz.prog 187 #[v, r] w fun e w' => ∃ u, e = .returned u ∧ Ow cB 4 w.heap.size w' u (rowv s (.bin .and a b)) ∧ Below w.heap.size w w' := by
  rw [enc_bin] at h hl
  have hleft := fun W (hW : Sl cN W v ((BK.and.i, (0 : Int)) :: (enc a ++ (enc b ++ [])))) => spec_l02Left v _ a _ W hW hl
  have hright := fun W (hW : Sl cN W v ((BK.and.i, (0 : Int)) :: (enc a ++ (enc b ++ [])))) => spec_l02Right v _ a b W (by simpa using hW) (by simpa using hl)
  have HL := Lib.hid hleft; clear hleft
  have HR := Lib.hid hright; clear hright
  obtain ⟨A, c, rfl⟩ := h.opn
  obtain ⟨A0, c0, rfl⟩ := hr.opn
  rw [rowOf_length] at hr ⊢
  obtain ⟨bb, o, rfl, hb, hc0, hc1⟩ := h.atN0
  simp only [BK.i] at hc0
  have hL0 : 0 < ((BK.and.i, (0 : Int)) :: (enc a ++ (enc b ++ []))).length := by simp
  generalize hxs : ((BK.and.i, (0 : Int)) :: (enc a ++ (enc b ++ []))) = xs at *
  clear hxs
  generalize xs.length = L at *
  have HIA := Lib.hid iha; clear iha
  have HIB := Lib.hid ihb; clear ihb
  have Hh := Lib.hid h; clear h
  go_enter Tryz.func187, Tryz.ntmps187
  go_wp2_with (at_make; refine stopHere ?_)
  refine goHere ?_
  refine mk_full (K := cB) w ty_bool rfl _ _ rfl w.heap.size 61 false rfl rfl rfl (by omega) (Nat.le_refl _) ?_
  intro w1 ho1 hg1 hb1 hsz1
  have hd0 : w1.cell? ⟨bb, o, none⟩ = some (.int .i64 2) := (hb1.cell (p := ⟨bb, o, none⟩) hb).trans hc0
  go_wp2_with fail
  refine (HL.out _ (Hh.out.below hb1)).mono ?_
  rintro e w2 ⟨u1, rfl, hs1, rfl⟩
  go_wp2_with fail
  refine (HIA.out _ _ _ hs1 (hr.below hb1)).mono ?_
  rintro e w2 ⟨x, rfl, hx, hb2⟩
  have hB2 : Below w.heap.size w w2 := bthen hb1 hb2
  go_wp2_with fail
  refine (HR.out _ (Hh.out.below hB2)).mono ?_
  rintro e w3 ⟨u2, rfl, hs2, rfl⟩
  go_wp2_with fail
  refine (HIB.out _ _ _ hs2 (hr.below hB2)).mono ?_
  rintro e w3 ⟨y, rfl, hy, hb3⟩
  have hB3 : Below w.heap.size w w3 := bthen hB2 hb3
  have ho3 := (ho1.below hb2).below hb3
  have hx3 := hx.below hb3
  have hy3 := hy.mono hb2.size
  have hd3 : w3.cell? ⟨bb, o, none⟩ = some (.int .i64 2) := (hB3.cell (p := ⟨bb, o, none⟩) hb).trans hc0
  obtain ⟨Ax, cx, rfl⟩ := hx.opn
  obtain ⟨Ay, cy, rfl⟩ := hy.opn
  have hsz3 := hb3.size
  have hsz2 := hb2.size
  clear hx hy ho1 hb1 hb2 hb3 hB2 hs1 hs2 hd0 hg1 HL HR HIA HIB Hh hc0 hc1 hr
  rw [rowv_length] at hx3 hy3 ⊢
  rw [rowv_length]
  go_wp2
  go_loopw [12] (fun i wr => ∃ j : Nat, j ≤ 61 ∧ i = .int .i64 j ∧ Ow cB 4 w.heap.size wr (.slice (some ⟨w.heap.size, 0, none⟩) 61 61) ((List.range j).map (rk (.bin .and a b) s) ++ List.replicate (61 - j) false) ∧ Ow cB 4 w1.heap.size wr (.slice Ax 61 cx) (rowv s a) ∧ Ow cB 4 w1.heap.size wr (.slice Ay 61 cy) (rowv s b) ∧ wr.cell? ⟨bb, o, none⟩ = some (.int .i64 2) ∧ Below w.heap.size w wr) (fun i _ => 61 - (intOf i).toNat)
  case atStart => exact ⟨0, by omega, rfl, ho3, hx3, hy3, hd3, hB3⟩
  case round =>
    obtain ⟨j, hj, rfl, ho, hx, hy, hd, hb⟩ := hrel
    clear ho3 hx3 hy3 hd3 hB3
    by_cases hlt : j < 61
    · obtain ⟨gx, rfl, hgx, -⟩ := hx.head (by rw [rowv_length]; omega)
      obtain ⟨gy, rfl, hgy, -⟩ := hy.head (by rw [rowv_length]; omega)
      obtain ⟨hcx, -, -, -⟩ := hx.at1 rfl (j := j) (by rw [rowv_length]; exact hlt) rfl
      obtain ⟨hcy, -, -, -⟩ := hy.at1 rfl (j := j) (by rw [rowv_length]; exact hlt) rfl
      rw [rowv_get] at hcx hcy
      obtain ⟨hc1, hf1, -, hg1'⟩ := ho.at1 rfl (j := j) (by simp; omega) rfl
      obtain ⟨old, hc1⟩ : ∃ old, wr.cell? ⟨w.heap.size, j, none⟩ = some old := ⟨_, hc1⟩
      have hset := ho.set1 (j := j) (x := rk (.bin .and a b) s j) (u := .bool (rk (.bin .and a b) s j)) rfl rfl (by simp; omega)
      rw [set_map_replicate _ _ _ _ hlt] at hset
      have hne : ¬ w.heap.size = bb := by omega
      have HS := Lib.hid hset
      have HX := Lib.hid (hx.setBelow (p := ⟨w.heap.size, j, none⟩) hsz1 (.bool (rk (.bin .and a b) s j)))
      have HY := Lib.hid (hy.setBelow (p := ⟨w.heap.size, j, none⟩) hsz1 (.bool (rk (.bin .and a b) s j)))
      have HB := Lib.hid (hb.setCell (p := ⟨w.heap.size, j, none⟩) (Nat.le_refl _) (.bool (rk (.bin .and a b) s j)))
      have HD : Hid ((wr.setCell ⟨w.heap.size, j, none⟩ (.bool (rk (.bin .and a b) s j))).cell? ⟨bb, o, none⟩ = some (.int .i64 2)) := by
        show _ = _
        rw [World.cell?_setCell_other _ _ _ _ (by intro e; injection e with e _; exact hne e)]
        exact hd
      have HV : Hid (rk (.bin .and a b) s j = (rk a s j && rk b s j)) := Lib.hid rfl
      clear ho hx hy hb hset
      generalize rk (.bin .and a b) s j = q at *
      by_cases hr : rk a s j = true
      · rw [hr] at hcx HV
        clear hr
        by_cases hr2 : rk b s j = true
        · rw [hr2] at hcy HV
          clear hr2
          obtain rfl := HV.out
          go_wp2
          go_roundw
          case rel => exact ⟨j + 1, by omega, by go_num, HS.out, HX.out, HY.out, HD.out, HB.out⟩
          case measure => simp [intOf]; omega
        · rw [Bool.not_eq_true] at hr2
          rw [hr2] at hcy HV
          clear hr2
          obtain rfl := HV.out
          go_wp2
          go_roundw
          case rel => exact ⟨j + 1, by omega, by go_num, HS.out, HX.out, HY.out, HD.out, HB.out⟩
          case measure => simp [intOf]; omega
      · rw [Bool.not_eq_true] at hr
        rw [hr] at hcx HV
        clear hr
        by_cases hr2 : rk b s j = true
        · rw [hr2] at hcy HV
          clear hr2
          obtain rfl := HV.out
          go_wp2
          go_roundw
          case rel => exact ⟨j + 1, by omega, by go_num, HS.out, HX.out, HY.out, HD.out, HB.out⟩
          case measure => simp [intOf]; omega
        · rw [Bool.not_eq_true] at hr2
          rw [hr2] at hcy HV
          clear hr2
          obtain rfl := HV.out
          go_wp2
          go_roundw
          case rel => exact ⟨j + 1, by omega, by go_num, HS.out, HX.out, HY.out, HD.out, HB.out⟩
          case measure => simp [intOf]; omega
    · obtain rfl : j = 61 := by omega
      rw [Nat.sub_self, List.replicate_zero, List.append_nil] at ho
      have HO : Hid (Ow cB 4 w.heap.size wr (.slice (some ⟨w.heap.size, 0, none⟩) 61 61) (rowv s (.bin .and a b))) := ho
      have HB := Lib.hid hb
      clear ho hb hx hy hd
      go_wp2
      go_ret
      exact ⟨_, rfl, HO.out, HB.out⟩
set_option maxRecDepth 100000 in
theorem spec_l33Row_or (s : Nat) (a b : Fm) (iha : ∀ (v r : Value) (w : World), Sl cN w v (enc a) → Sl cB w r (rowOf s) → Calls Tryz.prog 187 #[v, r] w fun e w' => ∃ u, e = .returned u ∧ Ow cB 4 w.heap.size w' u (rowv s a) ∧ Below w.heap.size w w')
    (ihb : ∀ (v r : Value) (w : World), Sl cN w v (enc b) → Sl cB w r (rowOf s) → Calls Tryz.prog 187 #[v, r] w fun e w' => ∃ u, e = .returned u ∧ Ow cB 4 w.heap.size w' u (rowv s b) ∧ Below w.heap.size w w')
    (v r : Value) (w : World) (hr : Sl cB w r (rowOf s)) (h : Sl cN w v (enc (.bin .or a b))) (hl : (enc (.bin .or a b)).length ≤ 1048576) :
    Calls Tryz.prog 187 #[v, r] w fun e w' => ∃ u, e = .returned u ∧ Ow cB 4 w.heap.size w' u (rowv s (.bin .or a b)) ∧ Below w.heap.size w w' := by
  rw [enc_bin] at h hl
  have hleft := fun W (hW : Sl cN W v ((BK.or.i, (0 : Int)) :: (enc a ++ (enc b ++ [])))) => spec_l02Left v _ a _ W hW hl
  have hright := fun W (hW : Sl cN W v ((BK.or.i, (0 : Int)) :: (enc a ++ (enc b ++ [])))) => spec_l02Right v _ a b W (by simpa using hW) (by simpa using hl)
  have HL := Lib.hid hleft; clear hleft
  have HR := Lib.hid hright; clear hright
  obtain ⟨A, c, rfl⟩ := h.opn
  obtain ⟨A0, c0, rfl⟩ := hr.opn
  rw [rowOf_length] at hr ⊢
  obtain ⟨bb, o, rfl, hb, hc0, hc1⟩ := h.atN0
  simp only [BK.i] at hc0
  have hL0 : 0 < ((BK.or.i, (0 : Int)) :: (enc a ++ (enc b ++ []))).length := by simp
  generalize hxs : ((BK.or.i, (0 : Int)) :: (enc a ++ (enc b ++ []))) = xs at *
  clear hxs
  generalize xs.length = L at *
  have HIA := Lib.hid iha; clear iha
  have HIB := Lib.hid ihb; clear ihb
  have Hh := Lib.hid h; clear h
  go_enter Tryz.func187, Tryz.ntmps187
  go_wp2_with (at_make; refine stopHere ?_)
  refine goHere ?_
  refine mk_full (K := cB) w ty_bool rfl _ _ rfl w.heap.size 61 false rfl rfl rfl (by omega) (Nat.le_refl _) ?_
  intro w1 ho1 hg1 hb1 hsz1
  have hd0 : w1.cell? ⟨bb, o, none⟩ = some (.int .i64 3) := (hb1.cell (p := ⟨bb, o, none⟩) hb).trans hc0
  go_wp2_with fail
  refine (HL.out _ (Hh.out.below hb1)).mono ?_
  rintro e w2 ⟨u1, rfl, hs1, rfl⟩
  go_wp2_with fail
  refine (HIA.out _ _ _ hs1 (hr.below hb1)).mono ?_
  rintro e w2 ⟨x, rfl, hx, hb2⟩
  have hB2 : Below w.heap.size w w2 := bthen hb1 hb2
  go_wp2_with fail
  refine (HR.out _ (Hh.out.below hB2)).mono ?_
  rintro e w3 ⟨u2, rfl, hs2, rfl⟩
  go_wp2_with fail
  refine (HIB.out _ _ _ hs2 (hr.below hB2)).mono ?_
  rintro e w3 ⟨y, rfl, hy, hb3⟩
  have hB3 : Below w.heap.size w w3 := bthen hB2 hb3
  have ho3 := (ho1.below hb2).below hb3
  have hx3 := hx.below hb3
  have hy3 := hy.mono hb2.size
  have hd3 : w3.cell? ⟨bb, o, none⟩ = some (.int .i64 3) := (hB3.cell (p := ⟨bb, o, none⟩) hb).trans hc0
  obtain ⟨Ax, cx, rfl⟩ := hx.opn
  obtain ⟨Ay, cy, rfl⟩ := hy.opn
  have hsz3 := hb3.size
  have hsz2 := hb2.size
  clear hx hy ho1 hb1 hb2 hb3 hB2 hs1 hs2 hd0 hg1 HL HR HIA HIB Hh hc0 hc1 hr
  rw [rowv_length] at hx3 hy3 ⊢
  rw [rowv_length]
  go_wp2
  go_loopw [12] (fun i wr => ∃ j : Nat, j ≤ 61 ∧ i = .int .i64 j ∧ Ow cB 4 w.heap.size wr (.slice (some ⟨w.heap.size, 0, none⟩) 61 61) ((List.range j).map (rk (.bin .or a b) s) ++ List.replicate (61 - j) false) ∧ Ow cB 4 w1.heap.size wr (.slice Ax 61 cx) (rowv s a) ∧ Ow cB 4 w1.heap.size wr (.slice Ay 61 cy) (rowv s b) ∧ wr.cell? ⟨bb, o, none⟩ = some (.int .i64 3) ∧ Below w.heap.size w wr) (fun i _ => 61 - (intOf i).toNat)
  case atStart => exact ⟨0, by omega, rfl, ho3, hx3, hy3, hd3, hB3⟩
  case round =>
    obtain ⟨j, hj, rfl, ho, hx, hy, hd, hb⟩ := hrel
    clear ho3 hx3 hy3 hd3 hB3
    by_cases hlt : j < 61
    · obtain ⟨gx, rfl, hgx, -⟩ := hx.head (by rw [rowv_length]; omega)
      obtain ⟨gy, rfl, hgy, -⟩ := hy.head (by rw [rowv_length]; omega)
      obtain ⟨hcx, -, -, -⟩ := hx.at1 rfl (j := j) (by rw [rowv_length]; exact hlt) rfl
      obtain ⟨hcy, -, -, -⟩ := hy.at1 rfl (j := j) (by rw [rowv_length]; exact hlt) rfl
      rw [rowv_get] at hcx hcy
      obtain ⟨hc1, hf1, -, hg1'⟩ := ho.at1 rfl (j := j) (by simp; omega) rfl
      obtain ⟨old, hc1⟩ : ∃ old, wr.cell? ⟨w.heap.size, j, none⟩ = some old := ⟨_, hc1⟩
      have hset := ho.set1 (j := j) (x := rk (.bin .or a b) s j) (u := .bool (rk (.bin .or a b) s j)) rfl rfl (by simp; omega)
      rw [set_map_replicate _ _ _ _ hlt] at hset
      have hne : ¬ w.heap.size = bb := by omega
      have HS := Lib.hid hset
      have HX := Lib.hid (hx.setBelow (p := ⟨w.heap.size, j, none⟩) hsz1 (.bool (rk (.bin .or a b) s j)))
      have HY := Lib.hid (hy.setBelow (p := ⟨w.heap.size, j, none⟩) hsz1 (.bool (rk (.bin .or a b) s j)))
      have HB := Lib.hid (hb.setCell (p := ⟨w.heap.size, j, none⟩) (Nat.le_refl _) (.bool (rk (.bin .or a b) s j)))
      have HD : Hid ((wr.setCell ⟨w.heap.size, j, none⟩ (.bool (rk (.bin .or a b) s j))).cell? ⟨bb, o, none⟩ = some (.int .i64 3)) := by
        show _ = _
        rw [World.cell?_setCell_other _ _ _ _ (by intro e; injection e with e _; exact hne e)]
        exact hd
      have HV : Hid (rk (.bin .or a b) s j = (rk a s j || rk b s j)) := Lib.hid rfl
      clear ho hx hy hb hset
      generalize rk (.bin .or a b) s j = q at *
      by_cases hr : rk a s j = true
      · rw [hr] at hcx HV
        clear hr
        by_cases hr2 : rk b s j = true
        · rw [hr2] at hcy HV
          clear hr2
          obtain rfl := HV.out
          go_wp2
          go_roundw
          case rel => exact ⟨j + 1, by omega, by go_num, HS.out, HX.out, HY.out, HD.out, HB.out⟩
          case measure => simp [intOf]; omega
        · rw [Bool.not_eq_true] at hr2
          rw [hr2] at hcy HV
          clear hr2
          obtain rfl := HV.out
          go_wp2
          go_roundw
          case rel => exact ⟨j + 1, by omega, by go_num, HS.out, HX.out, HY.out, HD.out, HB.out⟩
          case measure => simp [intOf]; omega
      · rw [Bool.not_eq_true] at hr
        rw [hr] at hcx HV
        clear hr
        by_cases hr2 : rk b s j = true
        · rw [hr2] at hcy HV
          clear hr2
          obtain rfl := HV.out
          go_wp2
          go_roundw
          case rel => exact ⟨j + 1, by omega, by go_num, HS.out, HX.out, HY.out, HD.out, HB.out⟩
          case measure => simp [intOf]; omega
        · rw [Bool.not_eq_true] at hr2
          rw [hr2] at hcy HV
          clear hr2
          obtain rfl := HV.out
          go_wp2
          go_roundw
          case rel => exact ⟨j + 1, by omega, by go_num, HS.out, HX.out, HY.out, HD.out, HB.out⟩
          case measure => simp [intOf]; omega
    · obtain rfl : j = 61 := by omega
      rw [Nat.sub_self, List.replicate_zero, List.append_nil] at ho
      have HO : Hid (Ow cB 4 w.heap.size wr (.slice (some ⟨w.heap.size, 0, none⟩) 61 61) (rowv s (.bin .or a b))) := ho
      have HB := Lib.hid hb
      clear ho hb hx hy hd
      go_wp2
      go_ret
      exact ⟨_, rfl, HO.out, HB.out⟩
set_option maxRecDepth 100000 in
theorem spec_l33Row_imp (s : Nat) (a b : Fm) (iha : ∀ (v r : Value) (w : World), Sl cN w v (enc a) → Sl cB w r (rowOf s) → Calls Tryz.prog 187 #[v, r] w fun e w' => ∃ u, e = .returned u ∧ Ow cB 4 w.heap.size w' u (rowv s a) ∧ Below w.heap.size w w')
    (ihb : ∀ (v r : Value) (w : World), Sl cN w v (enc b) → Sl cB w r (rowOf s) → Calls Tryz.prog 187 #[v, r] w fun e w' => ∃ u, e = .returned u ∧ Ow cB 4 w.heap.size w' u (rowv s b) ∧ Below w.heap.size w w')
    (v r : Value) (w : World) (hr : Sl cB w r (rowOf s)) (h : Sl cN w v (enc (.bin .imp a b))) (hl : (enc (.bin .imp a b)).length ≤ 1048576) :
    Calls Tryz.prog 187 #[v, r] w fun e w' => ∃ u, e = .returned u ∧ Ow cB 4 w.heap.size w' u (rowv s (.bin .imp a b)) ∧ Below w.heap.size w w' := by
  rw [enc_bin] at h hl
  have hleft := fun W (hW : Sl cN W v ((BK.imp.i, (0 : Int)) :: (enc a ++ (enc b ++ [])))) => spec_l02Left v _ a _ W hW hl
  have hright := fun W (hW : Sl cN W v ((BK.imp.i, (0 : Int)) :: (enc a ++ (enc b ++ [])))) => spec_l02Right v _ a b W (by simpa using hW) (by simpa using hl)
  have HL := Lib.hid hleft; clear hleft
  have HR := Lib.hid hright; clear hright
  obtain ⟨A, c, rfl⟩ := h.opn
  obtain ⟨A0, c0, rfl⟩ := hr.opn
  rw [rowOf_length] at hr ⊢
  obtain ⟨bb, o, rfl, hb, hc0, hc1⟩ := h.atN0
  simp only [BK.i] at hc0
  have hL0 : 0 < ((BK.imp.i, (0 : Int)) :: (enc a ++ (enc b ++ []))).length := by simp
  generalize hxs : ((BK.imp.i, (0 : Int)) :: (enc a ++ (enc b ++ []))) = xs at *
  clear hxs
  generalize xs.length = L at *
  have HIA := Lib.hid iha; clear iha
  have HIB := Lib.hid ihb; clear ihb
  have Hh := Lib.hid h; clear h
  go_enter Tryz.func187, Tryz.ntmps187
  go_wp2_with (at_make; refine stopHere ?_)
  refine goHere ?_
  refine mk_full (K := cB) w ty_bool rfl _ _ rfl w.heap.size 61 false rfl rfl rfl (by omega) (Nat.le_refl _) ?_
  intro w1 ho1 hg1 hb1 hsz1
  have hd0 : w1.cell? ⟨bb, o, none⟩ = some (.int .i64 4) := (hb1.cell (p := ⟨bb, o, none⟩) hb).trans hc0
  go_wp2_with fail
  refine (HL.out _ (Hh.out.below hb1)).mono ?_
  rintro e w2 ⟨u1, rfl, hs1, rfl⟩
  go_wp2_with fail
  refine (HIA.out _ _ _ hs1 (hr.below hb1)).mono ?_
  rintro e w2 ⟨x, rfl, hx, hb2⟩
  have hB2 : Below w.heap.size w w2 := bthen hb1 hb2
  go_wp2_with fail
  refine (HR.out _ (Hh.out.below hB2)).mono ?_
  rintro e w3 ⟨u2, rfl, hs2, rfl⟩
  go_wp2_with fail
  refine (HIB.out _ _ _ hs2 (hr.below hB2)).mono ?_
  rintro e w3 ⟨y, rfl, hy, hb3⟩
  have hB3 : Below w.heap.size w w3 := bthen hB2 hb3
  have ho3 := (ho1.below hb2).below hb3
  have hx3 := hx.below hb3
  have hy3 := hy.mono hb2.size
  have hd3 : w3.cell? ⟨bb, o, none⟩ = some (.int .i64 4) := (hB3.cell (p := ⟨bb, o, none⟩) hb).trans hc0
  obtain ⟨Ax, cx, rfl⟩ := hx.opn
  obtain ⟨Ay, cy, rfl⟩ := hy.opn
  have hsz3 := hb3.size
  have hsz2 := hb2.size
  clear hx hy ho1 hb1 hb2 hb3 hB2 hs1 hs2 hd0 hg1 HL HR HIA HIB Hh hc0 hc1 hr
  rw [rowv_length] at hx3 hy3 ⊢
  rw [rowv_length]
  go_wp2
  go_loopw [12] (fun i wr => ∃ j : Nat, j ≤ 61 ∧ i = .int .i64 j ∧ Ow cB 4 w.heap.size wr (.slice (some ⟨w.heap.size, 0, none⟩) 61 61) ((List.range j).map (rk (.bin .imp a b) s) ++ List.replicate (61 - j) false) ∧ Ow cB 4 w1.heap.size wr (.slice Ax 61 cx) (rowv s a) ∧ Ow cB 4 w1.heap.size wr (.slice Ay 61 cy) (rowv s b) ∧ wr.cell? ⟨bb, o, none⟩ = some (.int .i64 4) ∧ Below w.heap.size w wr) (fun i _ => 61 - (intOf i).toNat)
  case atStart => exact ⟨0, by omega, rfl, ho3, hx3, hy3, hd3, hB3⟩
  case round =>
    obtain ⟨j, hj, rfl, ho, hx, hy, hd, hb⟩ := hrel
    clear ho3 hx3 hy3 hd3 hB3
    by_cases hlt : j < 61
    · obtain ⟨gx, rfl, hgx, -⟩ := hx.head (by rw [rowv_length]; omega)
      obtain ⟨gy, rfl, hgy, -⟩ := hy.head (by rw [rowv_length]; omega)
      obtain ⟨hcx, -, -, -⟩ := hx.at1 rfl (j := j) (by rw [rowv_length]; exact hlt) rfl
      obtain ⟨hcy, -, -, -⟩ := hy.at1 rfl (j := j) (by rw [rowv_length]; exact hlt) rfl
      rw [rowv_get] at hcx hcy
      obtain ⟨hc1, hf1, -, hg1'⟩ := ho.at1 rfl (j := j) (by simp; omega) rfl
      obtain ⟨old, hc1⟩ : ∃ old, wr.cell? ⟨w.heap.size, j, none⟩ = some old := ⟨_, hc1⟩
      have hset := ho.set1 (j := j) (x := rk (.bin .imp a b) s j) (u := .bool (rk (.bin .imp a b) s j)) rfl rfl (by simp; omega)
      rw [set_map_replicate _ _ _ _ hlt] at hset
      have hne : ¬ w.heap.size = bb := by omega
      have HS := Lib.hid hset
      have HX := Lib.hid (hx.setBelow (p := ⟨w.heap.size, j, none⟩) hsz1 (.bool (rk (.bin .imp a b) s j)))
      have HY := Lib.hid (hy.setBelow (p := ⟨w.heap.size, j, none⟩) hsz1 (.bool (rk (.bin .imp a b) s j)))
      have HB := Lib.hid (hb.setCell (p := ⟨w.heap.size, j, none⟩) (Nat.le_refl _) (.bool (rk (.bin .imp a b) s j)))
      have HD : Hid ((wr.setCell ⟨w.heap.size, j, none⟩ (.bool (rk (.bin .imp a b) s j))).cell? ⟨bb, o, none⟩ = some (.int .i64 4)) := by
        show _ = _
        rw [World.cell?_setCell_other _ _ _ _ (by intro e; injection e with e _; exact hne e)]
        exact hd
      have HV : Hid (rk (.bin .imp a b) s j = (!rk a s j || rk b s j)) := Lib.hid rfl
      clear ho hx hy hb hset
      generalize rk (.bin .imp a b) s j = q at *
      by_cases hr : rk a s j = true
      · rw [hr] at hcx HV
        clear hr
        by_cases hr2 : rk b s j = true
        · rw [hr2] at hcy HV
          clear hr2
          obtain rfl := HV.out
          go_wp2
          go_roundw
          case rel => exact ⟨j + 1, by omega, by go_num, HS.out, HX.out, HY.out, HD.out, HB.out⟩
          case measure => simp [intOf]; omega
        · rw [Bool.not_eq_true] at hr2
          rw [hr2] at hcy HV
          clear hr2
          obtain rfl := HV.out
          go_wp2
          go_roundw
          case rel => exact ⟨j + 1, by omega, by go_num, HS.out, HX.out, HY.out, HD.out, HB.out⟩
          case measure => simp [intOf]; omega
      · rw [Bool.not_eq_true] at hr
        rw [hr] at hcx HV
        clear hr
        by_cases hr2 : rk b s j = true
        · rw [hr2] at hcy HV
          clear hr2
          obtain rfl := HV.out
          go_wp2
          go_roundw
          case rel => exact ⟨j + 1, by omega, by go_num, HS.out, HX.out, HY.out, HD.out, HB.out⟩
          case measure => simp [intOf]; omega
        · rw [Bool.not_eq_true] at hr2
          rw [hr2] at hcy HV
          clear hr2
          obtain rfl := HV.out
          go_wp2
          go_roundw
          case rel => exact ⟨j + 1, by omega, by go_num, HS.out, HX.out, HY.out, HD.out, HB.out⟩
          case measure => simp [intOf]; omega
    · obtain rfl : j = 61 := by omega
      rw [Nat.sub_self, List.replicate_zero, List.append_nil] at ho
      have HO : Hid (Ow cB 4 w.heap.size wr (.slice (some ⟨w.heap.size, 0, none⟩) 61 61) (rowv s (.bin .imp a b))) := ho
      have HB := Lib.hid hb
      clear ho hb hx hy hd
      go_wp2
      go_ret
      exact ⟨_, rfl, HO.out, HB.out⟩
/- Contracts of chapter 33: rows and traces of fixed points, of the reference. -/
theorem rowv_var (s t : Nat) : rowv s (.var t) = rowOf s := List.map_congr_left fun n _ => rfl
theorem rowOf_succ (f : Fm) (j : Nat) (h : j < 61) : (rowOf (fpS f j)).set j (rk f (fpS f j) j) = rowOf (fpS f (j + 1)) := by
  apply List.ext_getElem
  · simp [rowOf]
  · intro i h1 h2
    have hi : i < 61 := by simpa [rowOf] using h2
    rw [List.getElem_set]
    simp only [rowOf, List.getElem_map, List.getElem_range]
    rw [fpS_bit f j i h]
    by_cases hij : j = i
    · subst hij
      rw [if_pos rfl, fpS_out f j j (Nat.le_refl _) (by omega)]
      simp
    · rw [if_neg hij, decide_eq_false (fun e => hij e.symm)]
      simp
set_option maxRecDepth 100000 in
theorem spec_l33Row_var (s t : Nat) (v r : Value) (w : World) (hr : Sl cB w r (rowOf s)) (h : Sl cN w v (enc (.var t))) :
    Calls Tryz.prog 187 #[v, r] w fun e w' => ∃ u, e = .returned u ∧ Ow cB 4 w.heap.size w' u (rowv s (.var t)) ∧ Below w.heap.size w w' := by
  rw [rowv_var]
  obtain ⟨A, c, rfl⟩ := h.opn
  obtain ⟨A0, c0, rfl⟩ := hr.opn
  rw [rowOf_length] at hr ⊢
  obtain ⟨b, o, rfl, hb, hc0, hc1⟩ := h.atN0
  simp only [enc, List.length_cons, List.length_nil]
  go_enter Tryz.func187, Tryz.ntmps187
  go_wp2_with (at_make; refine stopHere ?_)
  refine goHere ?_
  refine mk_full (K := cB) w ty_bool rfl _ _ rfl w.heap.size 61 false rfl rfl rfl (by omega) (Nat.le_refl _) ?_
  intro w1 ho1 hg1 hb1 hsz1
  have hd0 : w1.cell? ⟨b, o, none⟩ = some (.int .i64 0) := (hb1.cell (p := ⟨b, o, none⟩) hb).trans hc0
  have hr1 := hr.below hb1
  have HB1 := Lib.hid hb1
  clear ho1 hb1 h hc0 hc1 hg1 hr
  go_wp2_with (at_builtin; refine stopHere ?_)
  refine goHere ?_
  refine ap_sl (K := cB) _ ty_bool rfl _ _ rfl rfl rfl (B := w1.heap.size) (xs := []) (news := rowOf s) (Ow.lit [] rfl rfl (Nat.le_refl _)) (hr1.alloc _) (by rw [rowOf_length]; simp) (by simp) ?_
  intro v1 w2 ho hg hb2 hat
  have O := Lib.hid (ho.mono HB1.out.size)
  have HB := Lib.hid (bthen HB1.out (((Below.refl _ _).alloc (Nat.le_refl _) _).trans hb2))
  clear ho hg hb2 hat hr1 hd0
  go_wp2
  go_ret
  exact ⟨_, rfl, O.out, HB.out⟩
theorem spec_l33Row (s : Nat) (f : Fm) : ∀ (hl : (enc f).length ≤ 1048576) (v r : Value) (w : World), Sl cN w v (enc f) → Sl cB w r (rowOf s) →
    Calls Tryz.prog 187 #[v, r] w fun e w' => ∃ u, e = .returned u ∧ Ow cB 4 w.heap.size w' u (rowv s f) ∧ Below w.heap.size w w' := by
  induction f with
  | var t => intro hl v r w h hr; exact spec_l33Row_var s t v r w hr h
  | fls => intro hl v r w h hr; exact spec_l33Row_fls s v r w hr h
  | un k a ih =>
    intro hl v r w h hr
    have hl2 : (enc a).length ≤ 1048576 := by simp [enc] at hl; omega
    cases k with
    | box => exact spec_l33Row_box s a (ih hl2) v r w hr h hl
    | dia => exact spec_l33Row_dia s a (ih hl2) v r w hr h hl
  | bin k a b iha ihb =>
    intro hl v r w h hr
    have hl2 : (enc a).length ≤ 1048576 := by simp [enc] at hl; omega
    have hl3 : (enc b).length ≤ 1048576 := by simp [enc] at hl; omega
    cases k with
    | and => exact spec_l33Row_and s a b (iha hl2) (ihb hl3) v r w hr h hl
    | or => exact spec_l33Row_or s a b (iha hl2) (ihb hl3) v r w hr h hl
    | imp => exact spec_l33Row_imp s a b (iha hl2) (ihb hl3) v r w hr h hl
set_option maxRecDepth 100000 in
theorem spec_l33Trace (f : Fm) (v : Value) (w : World) (h : Sl cN w v (enc f)) (hl : (enc f).length ≤ 1048576) :
    Calls Tryz.prog 107 #[v] w fun e w' => ∃ u, e = .returned (.agg #[.bool (!(fpS f 61).testBit 60), u]) ∧ Ow cI 2 w.heap.size w' u (trOf (fpS f 61).testBit) ∧ Below w.heap.size w w' := by
  have HR := Lib.hid (fun (W : World) (r : Value) (j : Nat) (hW : Sl cN W v (enc f)) (hr : Sl cB W r (rowOf (fpS f j))) => spec_l33Row (fpS f j) f hl v r W hW hr)
  have Hh := Lib.hid h
  clear h
  go_enter Tryz.func107, Tryz.ntmps107
  go_wp2_with (at_make; refine stopHere ?_)
  refine goHere ?_
  refine mk_full (K := cB) _ ty_bool rfl _ _ rfl (w.heap.size + 1) 61 false rfl rfl rfl (by omega) (by simp) ?_
  intro w1 ho1 hg1 hb1 hsz1
  rw [size_alloc'] at ho1 hsz1 ⊢
  have hB1 : Below w.heap.size w w1 := ((Below.refl _ _).alloc (Nat.le_refl _) _).trans (hb1.mono (by simp))
  have hk1 := (Blk.new w 55 #[.bool false, .slice none 0 0]).below hb1 (by simp)
  have e0 : rowOf (fpS f 0) = List.replicate 61 false := (by decide : rowOf 0 = List.replicate 61 false)
  have O1 : Hid (Ow cB 4 (w.heap.size + 1) w1 (.slice (some ⟨w.heap.size + 1, 0, none⟩) 61 61) (rowOf (fpS f 0))) := Lib.hid (by rw [e0]; exact ho1)
  clear e0
  have B1 := Lib.hid hB1
  have K1 := Lib.hid hk1
  clear ho1 hg1 hb1 hB1 hk1
  go_wp2
  go_loopw [4] (fun i wr => ∃ j : Nat, j ≤ 61 ∧ i = .int .i64 j ∧ Ow cB 4 (w.heap.size + 1) wr (.slice (some ⟨w.heap.size + 1, 0, none⟩) 61 61) (rowOf (fpS f j)) ∧ Blk wr w.heap.size 55 #[.bool false, .slice none 0 0] ∧ Below w.heap.size w wr) (fun i _ => 61 - (intOf i).toNat)
  case atStart => exact ⟨0, by omega, rfl, O1.out, K1.out, B1.out⟩
  case round =>
    obtain ⟨j, hj, rfl, ho, hk, hb⟩ := hrel
    have HO := Lib.hid ho; have HK := Lib.hid hk; have HB := Lib.hid hb
    clear ho hk hb O1 B1 K1
    by_cases hlt : j < 61
    · have HS := Lib.hid (rowOf_succ f j hlt)
      go_wp2_with fail
      refine (HR.out _ _ j (Hh.out.below HB.out) HO.out.sl).mono ?_
      rintro e w2 ⟨u, rfl, ho2, hb2⟩
      have ho3 := HO.out.below hb2
      have HK2 := Lib.hid (HK.out.below hb2 (by have := HK.out.lt; omega))
      have HB2 := Lib.hid (bthen HB.out hb2)
      have hsz2 := hb2.size
      obtain ⟨A2, c2, rfl⟩ := ho2.opn
      rw [rowv_length] at ho2 ⊢
      obtain ⟨g2, rfl, hg2, -⟩ := ho2.head (by rw [rowv_length]; omega)
      obtain ⟨hx, -, -, -⟩ := ho2.at1 rfl (j := j) (by rw [rowv_length]; exact hlt) rfl
      rw [rowv_get] at hx
      obtain ⟨hc1, hf1, -, hg1'⟩ := ho3.at1 rfl (j := j) (by rw [rowOf_length]; omega) rfl
      obtain ⟨old, hc1⟩ : ∃ old, w2.cell? ⟨w.heap.size + 1, j, none⟩ = some old := ⟨_, hc1⟩
      have hset := ho3.set1 (j := j) (x := rk f (fpS f j) j) (u := .bool (rk f (fpS f j) j)) rfl rfl (by rw [rowOf_length]; omega)
      rw [HS.out] at hset
      have HO2 := Lib.hid hset
      have HK3 := Lib.hid (HK2.out.far (p := ⟨w.heap.size + 1, j, none⟩) (by simp) (.bool (rk f (fpS f j) j)))
      have HB3 := Lib.hid (HB2.out.setCell (p := ⟨w.heap.size + 1, j, none⟩) (by simp) (.bool (rk f (fpS f j) j)))
      clear ho2 ho3 hset hb2
      go_wp2
      go_roundw
      case rel => exact ⟨j + 1, by omega, by go_num, HO2.out, HK3.out, HB3.out⟩
      case measure => simp [intOf]; omega
    · obtain rfl : j = 61 := by omega
      go_wp2_with fail
      refine (spec_l32Trace _ (fpS f 61).testBit _ HO.out.sl).mono ?_
      rintro e w3 ⟨u, rfl, ho, hb3⟩
      obtain ⟨A2, c2, rfl⟩ := ho.opn
      have k0 := HK.out.below hb3 HK.out.lt
      obtain ⟨k1, k2, k3⟩ := And.intro k0.cell (And.intro k0.frozen k0.lt)
      have hz := HB.out.size
      have hz2 := HK.out.lt
      have HOO := Lib.hid ho
      have HB3 := Lib.hid (bthen HB.out hb3)
      clear ho hb3 k0
      go_wp2
      refine bodyPost_ret (v := .agg #[.bool (!(fpS f 61).testBit 60), .slice A2 (trOf (fpS f 61).testBit).length c2]) (by simp [results, Tryz.results107, go_sem, k1, k2, k3]) rfl ⟨_, rfl, ?_, ?_⟩
      · exact ((HOO.out.setBelow hz2 _).setBelow hz2 _).mono hz
      · exact (HB3.out.setCell (Nat.le_refl _) _).setCell (Nat.le_refl _) _
end Go.Proofs.YtgcoohlakcncbaaGreat

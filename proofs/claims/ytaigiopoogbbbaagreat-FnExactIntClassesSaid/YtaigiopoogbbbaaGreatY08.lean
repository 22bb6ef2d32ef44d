/- Joined of several texts: M33, 33g, 33h, 33i, 33r, 33s, 33t. -/
import Derived.Test.YtaigiopoogbbbaaGreatY05
import Derived.Test.YtaigiopoogbbbaaGreatY07
import Derived.Deep.RegionHeld3
import Derived.Deep.QuietTactic
import Derived.BigQuiet
import Derived.Laws.StructEq
namespace Go.Proofs.YtaigiopoogbbbaaGreat
open Go.RowKit
set_option linter.unusedVariables false
set_option linter.unusedSimpArgs false
/- Plain words of chapter 33: guarded variables, the ranks of the fixed points. No program in sight. -/
/-- is a variable guarded? -/
def gd : Fm → Nat → Bool
  | .var s, v => s != v
  | .fls, _ => true
  | .bin _ a b, v => gd a v && gd b v
  | .un _ _, _ => true
/-- the lists of the parts below the first node -/
def kids : Fm → List Fm
  | .bin _ a b => [a, b]
  | .un _ a => [a]
  | _ => []
def vcode (xs : List Nd) (v : Int) : Int := if isF xs then (if inR v 0 5 then 0 else 2) else 1
theorem vcode_zero {xs : List Nd} {v : Int} (h : vcode xs v = 0) : (∃ f : Fm, f.ok = true ∧ xs = enc f ∧ (enc f).length ≤ 40) ∧ ∃ s : Nat, v = s ∧ s ≤ 5 := by
  unfold vcode at h
  by_cases h1 : isF xs = true
  · by_cases h2 : inR v 0 5 = true
    · have := inR_iff.1 h2
      exact ⟨(isF_iff xs).1 h1, v.toNat, by omega, by omega⟩
    · rw [if_pos h1, if_neg h2] at h; exact absurd h (by decide)
  · rw [if_neg h1] at h; exact absurd h (by decide)
theorem vcode_ok {xs : List Nd} {s : Nat} (h : isF xs = true) (hs : s ≤ 5) : vcode xs s = 0 := by
  unfold vcode
  rw [if_pos h, if_pos (inR_true (by omega) (by omega))]
/-- no variable but one -/
def only (xs : List Nd) (s : Nat) : Bool := decide (andnot (vmask xs) (2 ^ s) = 0)
theorem only_mems : ∀ m : Nat, m < 64 → ∀ s : Nat, s < 6 → decide (andnot m (2 ^ s) = 0) = (decide ((mems m).length = 0) || (decide ((mems m).length = 1) && decide ((mems m).headD 7 = (s : Int)))) := by decide +kernel
/-- the ranks of the fixed points below some rank -/
def fpS (f : Fm) : Nat → Nat
  | 0 => 0
  | n + 1 => fpS f n ||| (msk (rk f (fpS f n)) 61 &&& 2 ^ n)
theorem fpS_lt (f : Fm) (n : Nat) : fpS f n < 2 ^ 61 := by
  induction n with
  | zero => exact (by decide : (0 : Nat) < 2 ^ 61)
  | succ n ih => exact Nat.or_lt_two_pow ih (Nat.lt_of_le_of_lt Nat.and_le_left (msk_lt _ _))
theorem fpS_bit (f : Fm) (n i : Nat) (hn : n < 61) : (fpS f (n + 1)).testBit i = ((fpS f n).testBit i || (decide (i = n) && rk f (fpS f n) n)) := by
  rw [fpS, Nat.testBit_or, Nat.testBit_and, msk_testBit, Nat.testBit_two_pow]
  by_cases h : i = n
  · subst h
    simp [hn]
  · have h' : ¬ n = i := fun e => h e.symm
    simp [h, h']
theorem fpS_out (f : Fm) (n i : Nat) (h : n ≤ i) (hn : n ≤ 61) : (fpS f n).testBit i = false := by
  induction n with
  | zero => simp [fpS]
  | succ n ih => rw [fpS_bit f n i (by omega), ih (by omega) (by omega), decide_eq_false (by omega)]; rfl
theorem fpS_msk (f : Fm) : fpS f 61 = msk (fpS f 61).testBit 61 := msk_eq 61 _ (fpS_lt f 61) fun _ _ => rfl
/- Contracts of chapter 33: guarded variables, of the program. -/
theorem Sl2.nil {α : Type} {K : Cod α} {w : World} : Sl2 K w (.slice none 0 0) ([] : List (List α)) := ⟨[], Sl.nil, rfl, fun i a => by simp at a⟩
theorem impl_isModal_yes (k : UK) (w : World) :
    Calls Tryz.prog 51 #[.int .i64 k.i] w fun e w' => e = .returned (.bool true) ∧ w = w' := by
  cases k <;> simp only [UK.i]
  all_goals
    go_enter Tryz.func51, Tryz.ntmps51
    go_wp2
    go_ret
    exact ⟨rfl, rfl⟩
theorem impl_isModal_no (k : Int) (w : World) (h : k ≤ 4) :
    Calls Tryz.prog 51 #[.int .i64 k] w fun e w' => e = .returned (.bool false) ∧ w = w' := by
  have h5 : (k == 5) = false := by rw [beq_eq_false_iff_ne]; omega
  have h6 : (k == 6) = false := by rw [beq_eq_false_iff_ne]; omega
  go_enter Tryz.func51, Tryz.ntmps51
  go_wp2
  go_ret
  exact ⟨rfl, rfl⟩
theorem impl_parts (f : Fm) (v : Value) (w : World) (h : Sl cN w v (enc f)) (hl : (enc f).length ≤ 1048576) :
    Calls Tryz.prog 90 #[v] w fun e w' => ∃ u, e = .returned u ∧ Sl2 cN w' u ((kids f).map enc) ∧ Below w.heap.size w w' := by
  cases f with
  | var s =>
    obtain ⟨A, c, rfl⟩ := h.opn
    simp only [enc, List.length_cons, List.length_nil] at h ⊢
    obtain ⟨b, o, rfl, hb, hc0, hc1⟩ := h.atN0
    go_enter Tryz.func90, Tryz.ntmps90
    go_wp2_with fail
    refine (impl_partsOf _ _).mono ?_
    rintro e w1 ⟨rfl, rfl⟩
    rw [show parts 0 = 0 from rfl]
    go_wp2
    go_ret
    exact ⟨_, rfl, Sl2.nil, Below.refl _ _⟩
  | fls =>
    obtain ⟨A, c, rfl⟩ := h.opn
    simp only [enc, List.length_cons, List.length_nil] at h ⊢
    obtain ⟨b, o, rfl, hb, hc0, hc1⟩ := h.atN0
    go_enter Tryz.func90, Tryz.ntmps90
    go_wp2_with fail
    refine (impl_partsOf _ _).mono ?_
    rintro e w1 ⟨rfl, rfl⟩
    rw [show parts 1 = 0 from rfl]
    go_wp2
    go_ret
    exact ⟨_, rfl, Sl2.nil, Below.refl _ _⟩
  | un k a =>
    rw [enc_un] at h hl
    have hf := impl_first _ _ a [] w h hl
    obtain ⟨A, c, rfl⟩ := h.opn
    obtain ⟨b, o, rfl, hb, hc0, hc1⟩ := h.atN0
    have HF := Lib.hid hf; clear hf
    have hL0 : 0 < ((k.i, (0 : Int)) :: (enc a ++ [])).length := by simp
    clear h
    generalize ((k.i, (0 : Int)) :: (enc a ++ [])).length = L at *
    go_enter Tryz.func90, Tryz.ntmps90
    go_wp2_with fail
    refine (impl_partsOf _ _).mono ?_
    rintro e w1 ⟨rfl, rfl⟩
    rw [UK.parts k]
    go_wp2_with fail
    refine HF.out.mono ?_
    rintro e w1 ⟨u, rfl, hs, rfl⟩
    obtain ⟨A2, c2, rfl⟩ := hs.opn
    have HS := Lib.hid (Sl2.one hs 37)
    clear hs
    go_wp2
    go_ret
    exact ⟨_, rfl, HS.out, (Below.refl _ _).alloc (Nat.le_refl _) _⟩
  | bin k a b =>
    rw [enc_bin] at h hl
    have hf := impl_first _ _ a _ w h hl
    have hg := impl_second _ _ a b [] w h hl
    obtain ⟨A, c, rfl⟩ := h.opn
    obtain ⟨bb, o, rfl, hb, hc0, hc1⟩ := h.atN0
    have HF := Lib.hid hf; clear hf
    have HG := Lib.hid hg; clear hg
    have hL0 : 0 < ((k.i, (0 : Int)) :: (enc a ++ (enc b ++ []))).length := by simp
    clear h
    generalize ((k.i, (0 : Int)) :: (enc a ++ (enc b ++ []))).length = L at *
    go_enter Tryz.func90, Tryz.ntmps90
    go_wp2_with fail
    refine (impl_partsOf _ _).mono ?_
    rintro e w1 ⟨rfl, rfl⟩
    rw [BK.parts k]
    go_wp2_with fail
    refine HF.out.mono ?_
    rintro e w1 ⟨u, rfl, hs, rfl⟩
    go_wp2_with fail
    refine HG.out.mono ?_
    rintro e w1 ⟨u2, rfl, hs2, rfl⟩
    obtain ⟨A2, c2, rfl⟩ := hs.opn
    obtain ⟨A3, c3, rfl⟩ := hs2.opn
    have HS := Lib.hid (Sl2.two hs hs2 37)
    clear hs hs2
    go_wp2
    go_ret
    exact ⟨_, rfl, HS.out, (Below.refl _ _).alloc (Nat.le_refl _) _⟩
/- Contracts of chapter 33: guarded variables, of the program; slices.IndexFunc and slices.ContainsFunc at lists of nodes, by the index. -/
/-- the first index at which p holds, or -1 -/
def fidx (p : Nat → Bool) (n : Nat) : Int := match (List.range n).find? p with | some i => (i : Int) | none => -1
theorem fidx_some {p : Nat → Bool} {n j : Nat} (hj : j < n) (h : ∀ i < j, p i = false) (hp : p j = true) : fidx p n = j := by
  have hf : (List.range n).find? p = some j := by
    rw [List.find?_eq_some_iff_append]
    refine ⟨hp, List.range j, List.range' (j + 1) (n - 1 - j), ?_, fun a ha => by rw [h a (List.mem_range.1 ha)]; rfl⟩
    obtain ⟨d, hd⟩ : ∃ d, n - 1 - j = d := ⟨_, rfl⟩
    rw [hd, ← List.range'_succ, List.range_eq_range', List.range_eq_range', show n = j + (d + 1) by omega]
    have := List.range'_append (s := 0) (m := j) (n := d + 1) (step := 1)
    rw [← this]
    simp
  unfold fidx
  rw [hf]
theorem fidx_none {p : Nat → Bool} {n : Nat} (h : ∀ i < n, p i = false) : fidx p n = -1 := by
  have hf : (List.range n).find? p = none := by
    rw [List.find?_eq_none]
    intro i hi
    rw [h i (List.mem_range.1 hi)]
    decide
  unfold fidx
  rw [hf]
theorem fidx_range (p : Nat → Bool) (n : Nat) : -1 ≤ fidx p n ∧ fidx p n < n := by
  unfold fidx
  cases hf : (List.range n).find? p with
  | none => simp; omega
  | some i =>
    have := List.mem_range.1 (List.mem_of_find?_eq_some hf)
    simp
    omega
theorem fidx_any (p : Nat → Bool) (n : Nat) : decide (0 ≤ fidx p n) = (List.range n).any p := by
  cases h : (List.range n).any p
  · rw [fidx_none fun i hi => by
      have := List.any_eq_false.1 h i (List.mem_range.2 hi)
      simpa using this]
    rfl
  · have hf : ∃ j, (List.range n).find? p = some j := by
      obtain ⟨x, hx, hp⟩ := List.any_eq_true.1 h
      cases hq : (List.range n).find? p with
      | none => exact absurd hp (by have := List.find?_eq_none.1 hq x hx; exact this)
      | some j => exact ⟨j, rfl⟩
    obtain ⟨j, hj⟩ := hf
    unfold fidx
    rw [hj]
    simp
theorem any_range {α : Type} (l : List α) (d : α) (p : α → Bool) : (List.range l.length).any (fun i => p (l.getD i d)) = l.any p := by
  rw [Bool.eq_iff_iff, List.any_eq_true, List.any_eq_true]
  constructor
  · rintro ⟨i, hi, h⟩
    have hi := List.mem_range.1 hi
    rw [List.getD_eq_getElem?_getD, List.getElem?_eq_getElem hi] at h
    exact ⟨_, List.getElem_mem hi, h⟩
  · rintro ⟨x, hx, h⟩
    obtain ⟨i, hi, rfl⟩ := List.getElem_of_mem hx
    exact ⟨i, List.mem_range.2 hi, by rw [List.getD_eq_getElem?_getD, List.getElem?_eq_getElem hi]; exact h⟩
theorem slices_IndexFunc_nodes' (v : Value) (xss : List (List Nd)) (k : FuncId) (cap : Array Value) (p : Nat → Bool) (w : World) (h : Sl2 cN w v xss) (hl : xss.length ≤ 1073741824)
    (hk : ∀ (args : Array Value) (w : World), (callFunc k args).run Tryz.prog w = .ok (.enter k args) w)
    (hf : ∀ w', Below w.heap.size w w' → ∀ (u : Value) (i : Nat) (hi : i < xss.length), Sl cN w' u xss[i] → Calls Tryz.prog k (#[u] ++ cap) w' fun e w'' => e = .returned (.bool (p i)) ∧ Below w'.heap.size w' w'') :
    Calls Tryz.prog 33 #[v, .func (.func k) #[] cap] w fun e w' => e = .returned (.int .i64 (fidx p xss.length)) ∧ Below w.heap.size w w' := by
  obtain ⟨A, c, rfl⟩ := h.opn
  have HF := Lib.hid hf; clear hf
  go_enter Tryz.func33, Tryz.ntmps33
  go_wp2
  go_loopw [8] (fun i wr => ∃ j : Nat, j ≤ xss.length ∧ i = .int .i64 j ∧ (∀ i < j, p i = false) ∧ Below w.heap.size w wr) (fun i _ => xss.length - (intOf i).toNat)
  case atStart => exact ⟨0, Nat.zero_le _, rfl, fun i hi => by omega, Below.refl _ _⟩
  case round =>
    obtain ⟨j, hj, rfl, hh, hb⟩ := hrel
    have Hh := Lib.hid hh; clear hh
    by_cases hlt : j < xss.length
    · obtain ⟨b, o, Ai, ni, ci, rfl, hbl, hc0, hs⟩ := (h.below hb).at_ hlt
      have HS := Lib.hid hs; clear hs
      go_wp2_with fail
      refine (HF.out wr hb _ j hlt HS.out).mono ?_
      rintro e w1 ⟨rfl, hb1⟩
      have HB : Hid (Below w.heap.size w w1) := Lib.hid (hb.trans (hb1.mono hb.size))
      clear hb1 hb
      by_cases hp : p j = true
      · have HE := Lib.hid (fidx_some hlt Hh.out hp)
        rw [hp]
        have HP := Lib.hid hp; clear hp
        go_wp2
        go_ret
        exact ⟨by rw [HE.out]; rfl, HB.out⟩
      · rw [Bool.not_eq_true] at hp
        rw [hp]
        have HP := Lib.hid hp; clear hp
        go_wp2
        go_roundw
        case rel => exact ⟨j + 1, by omega, by go_num, fun i hi => (Nat.lt_or_ge i j).elim (fun h => Hh.out i h) (fun h => (show i = j by omega) ▸ HP.out), HB.out⟩
        case measure => simp [intOf]; omega
    · have HE : Hid (fidx p xss.length = -1) := Lib.hid (fidx_none fun i hi => Hh.out i (by omega))
      have HB := Lib.hid hb; clear hb
      go_wp2
      go_ret
      exact ⟨by rw [HE.out]; rfl, HB.out⟩
theorem slices_ContainsFunc_nodes' (v : Value) (xss : List (List Nd)) (k : FuncId) (cap : Array Value) (p : Nat → Bool) (w : World) (h : Sl2 cN w v xss) (hl : xss.length ≤ 1073741824)
    (hk : ∀ (args : Array Value) (w : World), (callFunc k args).run Tryz.prog w = .ok (.enter k args) w)
    (hf : ∀ w', Below w.heap.size w w' → ∀ (u : Value) (i : Nat) (hi : i < xss.length), Sl cN w' u xss[i] → Calls Tryz.prog k (#[u] ++ cap) w' fun e w'' => e = .returned (.bool (p i)) ∧ Below w'.heap.size w' w'') :
    Calls Tryz.prog 20 #[v, .func (.func k) #[] cap] w fun e w' => e = .returned (.bool ((List.range xss.length).any p)) ∧ Below w.heap.size w w' := by
  have HI := Lib.hid (slices_IndexFunc_nodes' v xss k cap p w h hl hk hf)
  have HR := Lib.hid (fidx_any p xss.length)
  clear h hk hf
  go_enter Tryz.func20, Tryz.ntmps20
  go_wp2_with fail
  refine HI.out.mono ?_
  rintro e w1 ⟨rfl, hb⟩
  have HB := Lib.hid hb; clear hb
  go_wp2
  go_ret
  exact ⟨by rw [← HR.out]; rfl, HB.out⟩
theorem run_eqg_node (op : BinOp) (x y : Operand) (xs ys : Array Value) (w : World) : (eqGuard op 46 x y (.agg xs) (.agg ys)).run Tryz.prog w = .ok () w := run_eqGuard_agg w op _ x y xs ys (by kernel_rfl)
theorem run_neq_node (a b c d : Int) (w : World) : (binOp .neq 46 (.agg #[.int .i64 a, .int .i64 b]) (.agg #[.int .i64 c, .int .i64 d])).run Tryz.prog w = .ok (.bool (!(a == c && b == d))) w := by
  have u3 := Tryz.underlying2
  have hS : Tryz.prog.underlying 46 = some (.struct (Tryz.prog.fieldsOf 46)) := by kernel_rfl
  have hp : Tryz.prog.stoodInHeld 46 = false := by kernel_rfl
  rw [run_neq_struct, show (10000 : Nat) = 9999 + 1 from rfl, run_equalIn_agg w 9999 _ _ _ hS hp]
  simp only [Program.fieldsOf, Tryz.underlying46]
  go_simp
  by_cases h1 : a = c <;> by_cases h2 : b = d <;> simp [h1, h2]
def kidBad (f : Fm) (s i : Nat) : Bool := !gd ((kids f).getD i .fls) s
theorem kids_all (f : Fm) (s : Nat) : (!(List.range (kids f).length).any (kidBad f s)) = (kids f).all fun g => gd g s := by
  have h := any_range (kids f) .fls (fun g => !gd g s)
  rw [show (List.range (kids f).length).any (kidBad f s) = (kids f).any fun g => !gd g s from h, List.any_eq_not_all_not, Bool.not_not]
  congr 1
  funext g
  rw [Bool.not_not]
theorem kids_length (f : Fm) : (kids f).length ≤ 2 := by cases f <;> simp [kids]
/- Contracts of chapter 33: guarded variables, of the reference. -/
theorem drop_split {α : Type} {xs ys zs : List α} {j : Nat} (h : xs.drop j = ys ++ zs) : xs.drop (j + ys.length) = zs := by
  rw [← List.drop_drop, h, List.drop_left]
theorem drop_lt {α : Type} {xs : List α} {j : Nat} {y : α} {ys : List α} (h : xs.drop j = y :: ys) : ∃ hj : j < xs.length, xs[j] = y := by
  have hj : j < xs.length := by
    rcases Nat.lt_or_ge j xs.length with h1 | h1
    · exact h1
    · rw [List.drop_of_length_le h1] at h; cases h
  refine ⟨hj, ?_⟩
  rw [List.drop_eq_getElem_cons hj] at h
  exact (List.cons.inj h).1
/- Contracts of chapter 33: the row of a formula below a box or a diamond, and of False. Written by gen33r.py out of the texts on l32Row. -/
def rowOf (s : Nat) : List Bool := (List.range 61).map s.testBit
theorem rowOf_length (s : Nat) : (rowOf s).length = 61 := by simp [rowOf]
def rowv (s : Nat) (f : Fm) : List Bool := (List.range 61).map (rk f s)
theorem rowv_length (s : Nat) (f : Fm) : (rowv s f).length = 61 := by simp [rowv]
theorem rowv_get (s : Nat) (f : Fm) (j : Nat) (h : j < (rowv s f).length) : (rowv s f)[j] = rk f s j := by simp [rowv]
/- Contracts of chapter 33: the row of a formula with two parts. Written by gen33r.py out of the texts on l32Row. -/
/- Contracts of chapter 33: rows and traces of fixed points, of the reference. -/
theorem rowv_var (s t : Nat) : rowv s (.var t) = rowOf s := List.map_congr_left fun n _ => rfl
theorem rowOf_succ (f : Fm) (j : Nat) (h : j < 61) : (rowOf (fpS f j)).set j (rk f (fpS f j) j) = rowOf (fpS f (j + 1)) := by
  apply List.ext_getElem
  · simp [rowOf]
  · intro i h1 h2
    have hi : i < 61 := by simpa [rowOf] using h2
    rw [List.getElem_set]
    simp only [rowOf, List.getElem_map, List.getElem_range]
    rw [fpS_bit f j i h]
    by_cases hij : j = i
    · subst hij
      rw [if_pos rfl, fpS_out f j j (Nat.le_refl _) (by omega)]
      simp
    · rw [if_neg hij, decide_eq_false (fun e => hij e.symm)]
      simp
end Go.Proofs.YtaigiopoogbbbaaGreat

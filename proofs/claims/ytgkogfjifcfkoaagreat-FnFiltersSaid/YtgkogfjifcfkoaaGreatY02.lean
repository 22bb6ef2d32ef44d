/- Joined of several texts. -/
import Derived.Test.YtgkogfjifcfkoaaGreatY00
import Derived.Test.YtgkogfjifcfkoaaGreatY01
import Derived.Deep.CutRange
import Derived.Deep.DeepCutAuto
import Derived.Deep.RegionHeld3
import Derived.Deep.QuietTactic
import Derived.BigQuiet
import Derived.Laws.StructEq
import Derived.Deep.RegionWith
namespace Go.Proofs.YtgkogfjifcfkoaaGreat
/- Joined of several texts: LU, LN, LUs, LG, LM. -/
open Go.RowKit
set_option linter.unusedVariables false
set_option linter.unusedSimpArgs false
/- The laws' own functions in one form, for the laws' walks: what is owned lies in a range of blocks; a mark changes that range alone. -/
/-- w' is w but for the blocks from B to H, and new ones -/
structure Keep (B H : Nat) (w w' : World) : Prop where
  os : w'.os = w.os
  tape : w'.tape = w.tape
  output : w'.output = w.output
  size : w.heap.size ≤ w'.heap.size
  block : ∀ k, k < w.heap.size → (k < B ∨ H ≤ k) → w'.heap[k]? = w.heap[k]?
theorem Keep.of_grown {B H : Nat} {w w' : World} {row : Option Nat} (h : w.grownBy w' row) (hr : ∀ k, row = some k → B ≤ k ∧ k < H) : Keep B H w w' :=
  ⟨h.os, h.tape, h.output, h.size, fun k hk hor => h.block k hk (fun e => by have := hr k e.symm; omega)⟩
theorem Keep.trans {B H : Nat} {a b c : World} (h : Keep B H a b) (k : Keep B H b c) : Keep B H a c :=
  ⟨k.os.trans h.os, k.tape.trans h.tape, k.output.trans h.output, Nat.le_trans h.size k.size, fun i hi ho => (k.block i (Nat.lt_of_lt_of_le hi h.size) ho).trans (h.block i hi ho)⟩
theorem Keep.mono {B H B' H' : Nat} {a b : World} (h : Keep B H a b) (h1 : B' ≤ B) (h2 : H ≤ H') : Keep B' H' a b :=
  ⟨h.os, h.tape, h.output, h.size, fun i hi ho => h.block i hi (by omega)⟩
theorem Bk.keep {w w' : World} {g B H : Nat} {cs : Array Value} (h : Bk w g cs) (k : Keep B H w w') (hg : g < B ∨ H ≤ g) : Bk w' g cs :=
  ⟨Nat.lt_of_lt_of_le h.1 k.size, fun i => (World.cell?_of_block (k.block g h.1 hg)).trans (h.2 i)⟩

/-- a slice of the call's own, its block from B on and below H -/
def Ob {α : Type} (K : Cod α) (e : TypeId) (B H : Nat) (w : World) (v : Value) (xs : List α) : Prop := Ow K e B w v xs ∧ ∀ k, v.ownBlock = some k → k < H
section
variable {α : Type} {K : Cod α} {e : TypeId} {B H : Nat} {w w' : World} {v : Value} {xs : List α}
theorem Ow.ob (h : Ow K e B w v xs) : Ob K e B w.heap.size w v xs := ⟨h, fun k hk => (h.block k hk).2⟩
theorem Ob.sl (h : Ob K e B H w v xs) : Sl K w v xs := h.1.sl
theorem Ob.opn (h : Ob K e B H w v xs) : ∃ A c, v = .slice A xs.length c := h.1.opn
theorem Ob.below (h : Ob K e B H w v xs) (hb : Below w.heap.size w w') : Ob K e B H w' v xs := ⟨h.1.below hb, h.2⟩
theorem Ob.keep {B' H' : Nat} (h : Ob K e B H w v xs) (k : Keep B' H' w w') (hd : H ≤ B' ∨ H' ≤ B) : Ob K e B H w' v xs := by
  refine ⟨⟨h.1.1, h.1.2.1, ?_⟩, h.2⟩
  rcases h.1.2.2 with h2 | ⟨g, cap, cur, hv, hB, hg, r⟩
  · exact .inl h2
  · refine .inr ⟨g, cap, cur, hv, hB, ?_, r⟩
    have hH := h.2 g (by rw [hv]; rfl)
    exact (k.block g (Array.getElem?_eq_some_iff.1 hg).1 (by omega)).trans hg
theorem Ob.inv {ys : List α} (h : Ob K e B H w v xs) (h' : Ow K e B w' v ys) : Ob K e B H w' v ys := ⟨h', h.2⟩
end
theorem below_alloc' (w : World) (o : Obj) : Below w.heap.size w (w.alloc o) := (Below.refl _ _).alloc (Nat.le_refl _) o
theorem size_alloc' (w : World) (o : Obj) : (w.alloc o).heap.size = w.heap.size + 1 := by simp
/- Contracts of the laws' own functions on []Node: size, copy, comparison of alike ones, marks. -/
/- The laws' own functions on slices in the one form. -/
/- The laws' own functions on Frames in the one form. -/
/- The laws' own functions on Models in the one form: size, equality. -/
/- Joined of several texts: 32r, 32s, 32t, 32k, 32l, 32m. -/
open Go.RowKit
set_option linter.unusedVariables false
set_option linter.unusedSimpArgs false
/- Contracts of chapter 32: the ranks at which a formula is true, of the program (a mask). -/
/- Contracts of chapter 32: the ranks at which a letterless formula is true, of the reference (a row). -/
def row (f : Fm) : List Bool := (List.range 61).map (rk f 0)
/- Contracts of chapter 32: the row of a formula with two parts, of the reference. -/
/- Contracts of chapter 32: the code of letterless formulas. -/
/-- a slice of slices reads as a list of lists -/
def Sl2 {α : Type} (K : Cod α) (w : World) (v : Value) (xss : List (List α)) : Prop :=
  ∃ hs : List Hd, Sl cH w v hs ∧ hs.length = xss.length ∧ ∀ (i : Nat) (h : i < hs.length) (h' : i < xss.length), Sl K w hs[i].val xss[i]
section
variable {α : Type} {K : Cod α} {w w' : World} {v : Value} {xss : List (List α)}
theorem Sl2.below (h : Sl2 K w v xss) (hb : Below w.heap.size w w') : Sl2 K w' v xss := by
  obtain ⟨hs, h1, h2, h3⟩ := h
  exact ⟨hs, h1.below hb, h2, fun i a b => (h3 i a b).below hb⟩
theorem Sl2.opn (h : Sl2 K w v xss) : ∃ A c, v = .slice A xss.length c := by
  obtain ⟨hs, h1, h2, h3⟩ := h
  rw [← h2]
  exact h1.opn
theorem Sl2.at_ {A : Option Addr} {n c : Nat} (h : Sl2 K w (.slice A n c) xss) {k : Nat} (hk : k < xss.length) :
    ∃ b o Ai ni ci, A = some ⟨b, o, none⟩ ∧ b < w.heap.size ∧ w.cell? ⟨b, o + k, none⟩ = some (.slice Ai ni ci) ∧ Sl K w (.slice Ai ni ci) xss[k] := by
  obtain ⟨hs, h1, h2, h3⟩ := h
  have hk' : k < hs.length := by omega
  obtain ⟨b, o, hA, hb, hc⟩ := h1.cell hk'
  have := hc 0 hs[k].val rfl
  exact ⟨b, o, hs[k].a, hs[k].n, hs[k].c, hA, hb, by simpa [cH, Hd.val] using this, h3 k hk' hk⟩
/-- one slice, laid as a slice of slices -/
theorem Sl2.one {A : Option Addr} {n c : Nat} {xs : List α} (h : Sl K w (.slice A n c) xs) (e : TypeId) : Sl2 K (w.alloc (.cells #[.slice A n c] e)) (.slice (some ⟨w.heap.size, 0, none⟩) 1 1) [xs] := by
  refine ⟨[⟨A, n, c⟩], (Ow.lit (K := cH) (e := e) (B := w.heap.size) [⟨A, n, c⟩] rfl rfl (Nat.le_refl _)).sl, rfl, fun i a b => ?_⟩
  have : i = 0 := by simp at a; omega
  subst this
  exact h.alloc _
theorem Sl2.two {A B : Option Addr} {n c m d : Nat} {xs ys : List α} (h : Sl K w (.slice A n c) xs) (h' : Sl K w (.slice B m d) ys) (e : TypeId) :
    Sl2 K (w.alloc (.cells #[.slice A n c, .slice B m d] e)) (.slice (some ⟨w.heap.size, 0, none⟩) 2 2) [xs, ys] := by
  refine ⟨[⟨A, n, c⟩, ⟨B, m, d⟩], (Ow.lit (K := cH) (e := e) (B := w.heap.size) [⟨A, n, c⟩, ⟨B, m, d⟩] rfl rfl (Nat.le_refl _)).sl, rfl, fun i a b => ?_⟩
  rcases (show i = 0 ∨ i = 1 by simp at a; omega) with rfl | rfl
  · exact h.alloc _
  · exact h'.alloc _
end
/- Contracts of chapter 32: the code of letterless formulas, of the reference. -/
/- Contracts of IsTrueAtRank, IsLetterlessTheorem and AreLetterlessEqual, of the program and of the reference. -/
/- Joined of several texts: 32n, 32o, 32p, 32q, 32u. -/
open Go.RowKit
set_option linter.unusedVariables false
set_option linter.unusedSimpArgs false
/- Contracts of chapter 32: the Trace of a row and of a mask. -/
/- Contracts of chapter 32: the Trace of a mask, of the program. -/
/- Contracts of TraceOf, of the program and of the reference. -/
/- Contracts of IsLetterlessTheorem, IsTrueSentence, FirstFalseRank and AreLetterlessEqual, of the program and of the reference. -/
/- Joined of several texts: M33, 33g, 33h, 33i, 33r, 33s, 33t. -/
open Go.RowKit
set_option linter.unusedVariables false
set_option linter.unusedSimpArgs false
/- Plain words of chapter 33: guarded variables, the ranks of the fixed points. No program in sight. -/
/-- the lists of the parts below the first node -/
def kids : Fm → List Fm
  | .bin _ a b => [a, b]
  | .un _ a => [a]
  | _ => []
/-- no variable but one -/
def only (xs : List Nd) (s : Nat) : Bool := decide (andnot (vmask xs) (2 ^ s) = 0)
/- Contracts of chapter 33: guarded variables, of the program. -/
theorem Sl2.nil {α : Type} {K : Cod α} {w : World} : Sl2 K w (.slice none 0 0) ([] : List (List α)) := ⟨[], Sl.nil, rfl, fun i a => by simp at a⟩
theorem impl_within (a b : Nat) (w : World) (ha : a < 9223372036854775808) (hb : b < 9223372036854775808) :
    Calls Tryz.prog 192 #[.int .i64 a, .int .i64 b] w fun e w' => e = .returned (.bool (decide (andnot a b = 0))) ∧ w = w' := by
  have E := i64_andNot_nat a b ha hb
  go_enter Tryz.func192, Tryz.ntmps192
  go_wp2
  go_ret
  exact ⟨by congr 1; show Value.bool _ = Value.bool _; congr 1; rw [Bool.eq_iff_iff]; simp, rfl⟩
/- Contracts of chapter 33: guarded variables, of the program; slices.IndexFunc and slices.ContainsFunc at lists of nodes, by the index. -/
/-- the first index at which p holds, or -1 -/
def fidx (p : Nat → Bool) (n : Nat) : Int := match (List.range n).find? p with | some i => (i : Int) | none => -1
theorem fidx_some {p : Nat → Bool} {n j : Nat} (hj : j < n) (h : ∀ i < j, p i = false) (hp : p j = true) : fidx p n = j := by
  have hf : (List.range n).find? p = some j := by
    rw [List.find?_eq_some_iff_append]
    refine ⟨hp, List.range j, List.range' (j + 1) (n - 1 - j), ?_, fun a ha => by rw [h a (List.mem_range.1 ha)]; rfl⟩
    obtain ⟨d, hd⟩ : ∃ d, n - 1 - j = d := ⟨_, rfl⟩
    rw [hd, ← List.range'_succ, List.range_eq_range', List.range_eq_range', show n = j + (d + 1) by omega]
    have := List.range'_append (s := 0) (m := j) (n := d + 1) (step := 1)
    rw [← this]
    simp
  unfold fidx
  rw [hf]
theorem fidx_none {p : Nat → Bool} {n : Nat} (h : ∀ i < n, p i = false) : fidx p n = -1 := by
  have hf : (List.range n).find? p = none := by
    rw [List.find?_eq_none]
    intro i hi
    rw [h i (List.mem_range.1 hi)]
    decide
  unfold fidx
  rw [hf]
theorem fidx_any (p : Nat → Bool) (n : Nat) : decide (0 ≤ fidx p n) = (List.range n).any p := by
  cases h : (List.range n).any p
  · rw [fidx_none fun i hi => by
      have := List.any_eq_false.1 h i (List.mem_range.2 hi)
      simpa using this]
    rfl
  · have hf : ∃ j, (List.range n).find? p = some j := by
      obtain ⟨x, hx, hp⟩ := List.any_eq_true.1 h
      cases hq : (List.range n).find? p with
      | none => exact absurd hp (by have := List.find?_eq_none.1 hq x hx; exact this)
      | some j => exact ⟨j, rfl⟩
    obtain ⟨j, hj⟩ := hf
    unfold fidx
    rw [hj]
    simp
theorem any_range {α : Type} (l : List α) (d : α) (p : α → Bool) : (List.range l.length).any (fun i => p (l.getD i d)) = l.any p := by
  rw [Bool.eq_iff_iff, List.any_eq_true, List.any_eq_true]
  constructor
  · rintro ⟨i, hi, h⟩
    have hi := List.mem_range.1 hi
    rw [List.getD_eq_getElem?_getD, List.getElem?_eq_getElem hi] at h
    exact ⟨_, List.getElem_mem hi, h⟩
  · rintro ⟨x, hx, h⟩
    obtain ⟨i, hi, rfl⟩ := List.getElem_of_mem hx
    exact ⟨i, List.mem_range.2 hi, by rw [List.getD_eq_getElem?_getD, List.getElem?_eq_getElem hi]; exact h⟩
/- Contracts of chapter 33: guarded variables, of the reference. -/
/- Contracts of chapter 33: the row of a formula below a box or a diamond, and of False. Written by gen33r.py out of the texts on l32Row. -/
/- Contracts of chapter 33: the row of a formula with two parts. Written by gen33r.py out of the texts on l32Row. -/
/- Contracts of chapter 33: rows and traces of fixed points, of the reference. -/
/- Joined of several texts: M05, 05a, 05b. -/
open Go.RowKit
set_option linter.unusedVariables false
set_option linter.unusedSimpArgs false
/- Plain words of chapters 5 and 6: masks, relations, frames, models, truth. No program in sight. -/
/-- a list of naturals as int64s -/
def li (ns : List Nat) : List Int := ns.map fun (i : Nat) => (i : Int)
theorem li_length (ns : List Nat) : (li ns).length = ns.length := by simp [li]
theorem li_get (ns : List Nat) (i : Nat) (h : i < (li ns).length) : (li ns)[i] = ((ns.getD i 0 : Nat) : Int) := by
  have h' : i < ns.length := by simpa [li] using h
  simp [li, h']
theorem li_of {xs : List Int} (h : ∀ x ∈ xs, 0 ≤ x) : xs = li (xs.map Int.toNat) := by
  induction xs with
  | nil => rfl
  | cons x t ih =>
    have h1 := h x List.mem_cons_self
    have h2 := ih fun y hy => h y (List.mem_cons_of_mem _ hy)
    show x :: t = ((x.toNat : Nat) : Int) :: li (t.map Int.toNat)
    rw [← h2, Int.toNat_of_nonneg h1]
/-- is m a mask of n elements? -/
def mkOk (n m : Int) : Bool := inR n 0 30 && inR m 0 (2 ^ n.toNat - 1)
/-- a relation of naturals -/
def RelN (ns : List Nat) : Prop := ns.length ≤ 8 ∧ ∀ x ∈ ns, x < 2 ^ ns.length
/-- the elements that are related to members of a mask alone -/
def bx (ns : List Nat) (m : Nat) : Nat := msk (fun i => decide (andnot (ns.getD i 0) m = 0)) ns.length
/-- the worlds at which a formula is true -/
def tv (ns us : List Nat) : Fm → Nat
  | .var s => us.getD s 0
  | .fls => 0
  | .bin .and a b => tv ns us a &&& tv ns us b
  | .bin .or a b => tv ns us a ||| tv ns us b
  | .bin .imp a b => andnot (2 ^ ns.length - 1) (tv ns us a) ||| tv ns us b
  | .un .box a => bx ns (tv ns us a)
  | .un .dia a => andnot (2 ^ ns.length - 1) (bx ns (andnot (2 ^ ns.length - 1) (tv ns us a)))
theorem andnot_lt {a b k : Nat} (h : a < 2 ^ k) : andnot a b < 2 ^ k := by
  unfold andnot
  exact Nat.xor_lt_two_pow h (Nat.lt_of_le_of_lt (Nat.and_le_left (n := a) (m := b)) h)
theorem getD_lt {us : List Nat} {k : Nat} (h : ∀ x ∈ us, x < 2 ^ k) (i : Nat) : us.getD i 0 < 2 ^ k := by
  rw [List.getD_eq_getElem?_getD]
  rcases Nat.lt_or_ge i us.length with hi | hi
  · rw [List.getElem?_eq_getElem hi]; exact h _ (List.getElem_mem hi)
  · rw [List.getElem?_eq_none hi]; exact Nat.pow_pos (by decide)
theorem two_pow_256 {k : Nat} (h : k ≤ 8) : 2 ^ k ≤ 256 := Nat.pow_le_pow_right (n := 2) (by decide) h
/- Contracts of chapters 1, 5 and 6: masks, relations, frames, models. -/
theorem impl_isMask (n m : Int) (w : World) :
    Calls Tryz.prog 78 #[.int .i64 n, .int .i64 m] w fun e w' => e = .returned (.bool (mkOk n m)) ∧ w = w' := by
  cases h1 : inR n 0 30
  · have E : Hid (mkOk n m = false) := Lib.hid (by unfold mkOk; rw [h1]; rfl)
    have H1 := Lib.hid h1; clear h1
    go_enter Tryz.func78, Tryz.ntmps78
    go_wp2_with fail
    refine (impl_inRange _ _ _ _).mono ?_
    rintro e w1 ⟨rfl, rfl⟩
    rw [H1.out]
    go_wp2
    go_ret
    exact ⟨by rw [E.out]; rfl, rfl⟩
  · have E : Hid (mkOk n m = inR m 0 (2 ^ n.toNat - 1)) := Lib.hid (by unfold mkOk; rw [h1]; rfl)
    have hr := inR_iff.1 h1
    have e1 := wrap_two_pow (n := n.toNat) (by omega)
    have e2 := two_pow_le (n := n.toNat) (by omega)
    have e3 : (0 : Int) < 2 ^ n.toNat := Int.pow_pos (by decide)
    have hn : 0 ≤ n := hr.1
    have hn2 : n ≤ 30 := hr.2
    have H1 := Lib.hid h1; clear h1 hr
    go_enter Tryz.func78, Tryz.ntmps78
    go_wp2_with fail
    refine (impl_inRange _ _ _ _).mono ?_
    rintro e w1 ⟨rfl, rfl⟩
    rw [H1.out]
    go_wp2_with fail
    refine (impl_inRange _ _ _ _).mono ?_
    rintro e w1 ⟨rfl, rfl⟩
    go_wp2
    go_ret
    exact ⟨by rw [E.out]; rfl, rfl⟩
theorem slices_IndexFunc_ints (v : Value) (xs : List Int) (k : FuncId) (cap : Array Value) (p : Nat → Bool) (w : World) (h : Sl cI w v xs) (hl : xs.length ≤ 1073741824)
    (hk : ∀ (args : Array Value) (w : World), (callFunc k args).run Tryz.prog w = .ok (.enter k args) w)
    (hf : ∀ w', Below w.heap.size w w' → ∀ (i : Nat) (hi : i < xs.length), Calls Tryz.prog k (#[.int .i64 xs[i]] ++ cap) w' fun e w'' => e = .returned (.bool (p i)) ∧ Below w'.heap.size w' w'') :
    Calls Tryz.prog 96 #[v, .func (.func k) #[] cap] w fun e w' => e = .returned (.int .i64 (fidx p xs.length)) ∧ Below w.heap.size w w' := by
  obtain ⟨A, c, rfl⟩ := h.opn
  have HF := Lib.hid hf; clear hf
  go_enter Tryz.func96, Tryz.ntmps96
  go_wp2
  go_loopw [8] (fun i wr => ∃ j : Nat, j ≤ xs.length ∧ i = .int .i64 j ∧ (∀ i < j, p i = false) ∧ Below w.heap.size w wr) (fun i _ => xs.length - (intOf i).toNat)
  case atStart => exact ⟨0, Nat.zero_le _, rfl, fun i hi => by omega, Below.refl _ _⟩
  case round =>
    obtain ⟨j, hj, rfl, hh, hb⟩ := hrel
    have Hh := Lib.hid hh; clear hh
    by_cases hlt : j < xs.length
    · obtain ⟨b, o, rfl, hbl, hc0⟩ := (h.below hb).atI hlt
      go_wp2_with fail
      refine (HF.out wr hb j hlt).mono ?_
      rintro e w1 ⟨rfl, hb1⟩
      have HB : Hid (Below w.heap.size w w1) := Lib.hid (hb.trans (hb1.mono hb.size))
      clear hb1 hb
      by_cases hp : p j = true
      · have HE := Lib.hid (fidx_some hlt Hh.out hp)
        rw [hp]
        have HP := Lib.hid hp; clear hp
        go_wp2
        go_ret
        exact ⟨by rw [HE.out]; rfl, HB.out⟩
      · rw [Bool.not_eq_true] at hp
        rw [hp]
        have HP := Lib.hid hp; clear hp
        go_wp2
        go_roundw
        case rel => exact ⟨j + 1, by omega, by go_num, fun i hi => (Nat.lt_or_ge i j).elim (fun h => Hh.out i h) (fun h => (show i = j by omega) ▸ HP.out), HB.out⟩
        case measure => simp [intOf]; omega
    · have HE : Hid (fidx p xs.length = -1) := Lib.hid (fidx_none fun i hi => Hh.out i (by omega))
      have HB := Lib.hid hb; clear hb
      go_wp2
      go_ret
      exact ⟨by rw [HE.out]; rfl, HB.out⟩
theorem slices_ContainsFunc_ints (v : Value) (xs : List Int) (k : FuncId) (cap : Array Value) (p : Nat → Bool) (w : World) (h : Sl cI w v xs) (hl : xs.length ≤ 1073741824)
    (hk : ∀ (args : Array Value) (w : World), (callFunc k args).run Tryz.prog w = .ok (.enter k args) w)
    (hf : ∀ w', Below w.heap.size w w' → ∀ (i : Nat) (hi : i < xs.length), Calls Tryz.prog k (#[.int .i64 xs[i]] ++ cap) w' fun e w'' => e = .returned (.bool (p i)) ∧ Below w'.heap.size w' w'') :
    Calls Tryz.prog 53 #[v, .func (.func k) #[] cap] w fun e w' => e = .returned (.bool ((List.range xs.length).any p)) ∧ Below w.heap.size w w' := by
  have HI := Lib.hid (slices_IndexFunc_ints v xs k cap p w h hl hk hf)
  have HR := Lib.hid (fidx_any p xs.length)
  clear h hk hf
  go_enter Tryz.func53, Tryz.ntmps53
  go_wp2_with fail
  refine HI.out.mono ?_
  rintro e w1 ⟨rfl, hb⟩
  have HB := Lib.hid hb; clear hb
  go_wp2
  go_ret
  exact ⟨by rw [← HR.out]; rfl, HB.out⟩
/- Contracts of chapters 1, 5 and 6: models, boxes, of the program and of the reference. -/
end Go.Proofs.YtgkogfjifcfkoaaGreat

/- Joined of several texts. -/
import Derived.Test.YtcikenffeekkeaaGreatDoorY02
import Derived.Test.YtcikenffeekkeaaGreatDoorY16
import Derived.Deep.RegionWith
import Derived.Test.YtcikenffeekkeaaGreatDoorY21
import Derived.Test.YtcikenffeekkeaaGreatDoorY20
import Derived.Sort.Walk0
import Derived.Shelf.SlicesE.Compact
import Derived.Shelf.SortM.Plain
import Derived.Shelf.SortM.SortNone
import Derived.Sort.OwnSorted
import Derived.Lib.AppendZeros
namespace Go.Proofs.YtcikenffeekkeaaGreatDoor
/- Joined of several texts: M05, 05a, 05b. -/
open Go.RowKit
set_option linter.unusedVariables false
set_option linter.unusedSimpArgs false
/- Plain words of chapters 5 and 6: masks, relations, frames, models, truth. No program in sight. -/
/-- a list of naturals as int64s -/
def li (ns : List Nat) : List Int := ns.map fun (i : Nat) => (i : Int)
theorem li_length (ns : List Nat) : (li ns).length = ns.length := by simp [li]
theorem li_get (ns : List Nat) (i : Nat) (h : i < (li ns).length) : (li ns)[i] = ((ns.getD i 0 : Nat) : Int) := by
  have h' : i < ns.length := by simpa [li] using h
  simp [li, h']
theorem li_of {xs : List Int} (h : ∀ x ∈ xs, 0 ≤ x) : xs = li (xs.map Int.toNat) := by
  induction xs with
  | nil => rfl
  | cons x t ih =>
    have h1 := h x List.mem_cons_self
    have h2 := ih fun y hy => h y (List.mem_cons_of_mem _ hy)
    show x :: t = ((x.toNat : Nat) : Int) :: li (t.map Int.toNat)
    rw [← h2, Int.toNat_of_nonneg h1]
/-- is m a mask of n elements? -/
def mkOk (n m : Int) : Bool := inR n 0 30 && inR m 0 (2 ^ n.toNat - 1)
theorem mkOk_small {n m : Int} (h : 0 ≤ n ∧ n ≤ 8) : mkOk n m = inR m 0 (2 ^ n.toNat - 1) := by
  unfold mkOk
  rw [inR_true h.1 (by omega), Bool.true_and]
theorem mkOk_nat {n : Nat} {m : Int} (h : mkOk n m = true) : 0 ≤ m ∧ m.toNat < 2 ^ n := by
  unfold mkOk at h
  rw [Bool.and_eq_true, inR_iff, inR_iff] at h
  obtain ⟨_, h1, h2⟩ := h
  refine ⟨h1, ?_⟩
  rw [Int.toNat_natCast] at h2
  have h3 : (2 : Int) ^ n = ((2 ^ n : Nat) : Int) := by rw [Int.natCast_pow]; rfl
  rw [h3] at h2
  have : 0 < 2 ^ n := Nat.pow_pos (by decide)
  omega
def relOk (xs : List Int) : Bool := xs.all fun m => mkOk xs.length m
def frOk (n : Int) (xs : List Int) : Bool := inR n 0 8 && (decide ((xs.length : Int) = n) && relOk xs)
def mdOk (n : Int) (xs vs : List Int) : Bool := frOk n xs && (decide (vs.length = 6) && vs.all fun m => mkOk n m)
/-- a relation of naturals -/
def RelN (ns : List Nat) : Prop := ns.length ≤ 8 ∧ ∀ x ∈ ns, x < 2 ^ ns.length
theorem frOk_iff {n : Int} {xs : List Int} (h : frOk n xs = true) : ∃ ns : List Nat, xs = li ns ∧ n = ns.length ∧ RelN ns := by
  unfold frOk at h
  simp only [Bool.and_eq_true, decide_eq_true_eq] at h
  obtain ⟨h1, h2, h3⟩ := h
  have h1 := inR_iff.1 h1
  unfold relOk at h3
  rw [List.all_eq_true] at h3
  have hx := fun x hx => mkOk_nat (h3 x hx)
  refine ⟨xs.map Int.toNat, li_of fun x h => (hx x h).1, by simp [h2], by simp; omega, fun y hy => ?_⟩
  rw [List.mem_map] at hy
  obtain ⟨x, hxm, rfl⟩ := hy
  rw [List.length_map]
  exact (hx x hxm).2
theorem mdOk_iff {n : Int} {xs vs : List Int} (h : mdOk n xs vs = true) : ∃ ns us : List Nat, xs = li ns ∧ vs = li us ∧ n = ns.length ∧ RelN ns ∧ us.length = 6 ∧ ∀ x ∈ us, x < 2 ^ ns.length := by
  unfold mdOk at h
  simp only [Bool.and_eq_true, decide_eq_true_eq] at h
  obtain ⟨h1, h2, h3⟩ := h
  obtain ⟨ns, rfl, rfl, hr⟩ := frOk_iff h1
  rw [List.all_eq_true] at h3
  have hx := fun x hx => mkOk_nat (h3 x hx)
  refine ⟨ns, vs.map Int.toNat, rfl, li_of fun x h => (hx x h).1, rfl, hr, by simpa using h2, fun y hy => ?_⟩
  rw [List.mem_map] at hy
  obtain ⟨x, hxm, rfl⟩ := hy
  exact (hx x hxm).2
/-- the elements that are related to members of a mask alone -/
def bx (ns : List Nat) (m : Nat) : Nat := msk (fun i => decide (andnot (ns.getD i 0) m = 0)) ns.length
theorem bx_lt (ns : List Nat) (m : Nat) : bx ns m < 2 ^ ns.length := msk_lt _ _
theorem and_eq_iff (a m : Nat) : (a &&& m = a) ↔ andnot a m = 0 := by
  constructor
  · intro h; unfold andnot; rw [h, Nat.xor_self]
  · intro h
    apply Nat.eq_of_testBit_eq
    intro i
    have := congrArg (fun n => n.testBit i) h
    simp only [andnot_testBit, Nat.zero_testBit] at this
    rw [Nat.testBit_and]
    cases ha : a.testBit i
    · rfl
    · rw [ha] at this
      cases hm : m.testBit i
      · rw [hm] at this; exact absurd this (by decide)
      · rfl
/-- the worlds at which a formula is true -/
def tv (ns us : List Nat) : Fm → Nat
  | .var s => us.getD s 0
  | .fls => 0
  | .bin .and a b => tv ns us a &&& tv ns us b
  | .bin .or a b => tv ns us a ||| tv ns us b
  | .bin .imp a b => andnot (2 ^ ns.length - 1) (tv ns us a) ||| tv ns us b
  | .un .box a => bx ns (tv ns us a)
  | .un .dia a => andnot (2 ^ ns.length - 1) (bx ns (andnot (2 ^ ns.length - 1) (tv ns us a)))
theorem andnot_lt {a b k : Nat} (h : a < 2 ^ k) : andnot a b < 2 ^ k := by
  unfold andnot
  exact Nat.xor_lt_two_pow h (Nat.lt_of_le_of_lt (Nat.and_le_left (n := a) (m := b)) h)
theorem full_lt (k : Nat) : 2 ^ k - 1 < 2 ^ k := Nat.sub_lt (Nat.pow_pos (by decide)) (by decide)
theorem getD_lt {us : List Nat} {k : Nat} (h : ∀ x ∈ us, x < 2 ^ k) (i : Nat) : us.getD i 0 < 2 ^ k := by
  rw [List.getD_eq_getElem?_getD]
  rcases Nat.lt_or_ge i us.length with hi | hi
  · rw [List.getElem?_eq_getElem hi]; exact h _ (List.getElem_mem hi)
  · rw [List.getElem?_eq_none hi]; exact Nat.pow_pos (by decide)
theorem tv_lt (ns us : List Nat) (h : ∀ x ∈ us, x < 2 ^ ns.length) (f : Fm) : tv ns us f < 2 ^ ns.length := by
  induction f with
  | var s => exact getD_lt h s
  | fls => exact Nat.pow_pos (by decide)
  | bin k a b iha ihb =>
    cases k
    · exact Nat.and_lt_two_pow _ ihb
    · exact Nat.or_lt_two_pow iha ihb
    · exact Nat.or_lt_two_pow (andnot_lt (full_lt _)) ihb
  | un k a ih =>
    cases k
    · exact bx_lt _ _
    · exact andnot_lt (full_lt _)
theorem two_pow_256 {k : Nat} (h : k ≤ 8) : 2 ^ k ≤ 256 := Nat.pow_le_pow_right (n := 2) (by decide) h
/- Contracts of chapters 1, 5 and 6: masks, relations, frames, models. -/
/- Contracts of chapters 1, 5 and 6: models, boxes, of the program and of the reference. -/
theorem msk_bound (p : Nat → Bool) {k n : Nat} (h : k ≤ n) (hn : n ≤ 8) : msk p k < 256 :=
  Nat.lt_of_lt_of_le (msk_lt p k) (Nat.le_trans (Nat.pow_le_pow_right (by decide) h) (two_pow_256 hn))
/- Contracts of chapter 6: the stack of truthSet, of the program. -/
open Go.RowKit
set_option linter.unusedVariables false
set_option linter.unusedSimpArgs false
theorem li_append (xs ys : List Nat) : li (xs ++ ys) = li xs ++ li ys := by simp [li]
/-- the formulas whose nodes stand from an index on -/
def stepD : List Fm → List Fm
  | [] => []
  | g :: rest => kids g ++ rest
def dc (f : Fm) : Nat → List Fm
  | 0 => [f]
  | j + 1 => stepD (dc f j)
theorem enc_step (g : Fm) (rest : List Fm) : ∃ x : Nd, enc g ++ rest.flatMap enc = x :: (kids g ++ rest).flatMap enc ∧ (match g with | .var s => x = (0, (s : Int)) | .fls => x = (1, 0) | .bin k _ _ => x = (k.i, 0) | .un k _ => x = (k.i, 0)) := by
  cases g with
  | var s => exact ⟨_, by simp [enc, kids], rfl⟩
  | fls => exact ⟨_, by simp [enc, kids], rfl⟩
  | bin k a b => exact ⟨_, by simp [enc, kids], rfl⟩
  | un k a => exact ⟨_, by simp [enc, kids], rfl⟩
theorem dc_drop (f : Fm) (j : Nat) (h : j ≤ (enc f).length) : (enc f).drop j = (dc f j).flatMap enc := by
  induction j with
  | zero => simp [dc]
  | succ j ih =>
    have h1 := ih (by omega)
    have hlt : j < (enc f).length := by omega
    rw [List.drop_eq_getElem_cons hlt] at h1
    cases hd : dc f j with
    | nil => rw [hd] at h1; cases h1
    | cons g rest =>
      rw [hd, List.flatMap_cons] at h1
      obtain ⟨x, hx, _⟩ := enc_step g rest
      rw [hx] at h1
      show _ = (stepD (dc f j)).flatMap enc
      rw [hd]
      exact (List.cons.inj h1).2
theorem flatMap_enc_length (fs : List Fm) : fs.length ≤ (fs.flatMap enc).length := by
  induction fs with
  | nil => simp
  | cons g t ih => have := enc_pos g; rw [List.flatMap_cons, List.length_append, List.length_cons]; omega
theorem dc_length (f : Fm) (j : Nat) (h : j ≤ (enc f).length) : (dc f j).length ≤ (enc f).length := by
  have h1 := flatMap_enc_length (dc f j)
  rw [← dc_drop f j h, List.length_drop] at h1
  omega
/-- the node at an index, and the formulas from it on -/
theorem dc_at (f : Fm) (j : Nat) (h : j < (enc f).length) : ∃ (g : Fm) (rest : List Fm), dc f j = g :: rest ∧ dc f (j + 1) = kids g ++ rest ∧ (match g with | .var s => (enc f)[j] = (0, (s : Int)) | .fls => (enc f)[j] = (1, 0) | .bin k _ _ => (enc f)[j] = (k.i, 0) | .un k _ => (enc f)[j] = (k.i, 0)) := by
  have h1 := dc_drop f j (by omega)
  rw [List.drop_eq_getElem_cons h] at h1
  cases hd : dc f j with
  | nil => rw [hd] at h1; cases h1
  | cons g rest =>
    rw [hd, List.flatMap_cons] at h1
    obtain ⟨x, hx, hm⟩ := enc_step g rest
    rw [hx] at h1
    have hxe := (List.cons.inj h1).1
    refine ⟨g, rest, rfl, by show stepD (dc f j) = _; rw [hd]; rfl, ?_⟩
    rw [hxe]
    exact hm
/-- what stands on the stack when the nodes from an index on are done -/
def stk (ns us : List Nat) (fs : List Fm) : List Nat := (fs.map (tv ns us)).reverse
theorem stk_cons (ns us : List Nat) (g : Fm) (fs : List Fm) : stk ns us (g :: fs) = stk ns us fs ++ [tv ns us g] := by simp [stk]
theorem stk_length (ns us : List Nat) (fs : List Fm) : (stk ns us fs).length = fs.length := by simp [stk]
/- Joined of several texts: PT, M2U, 2V, 2X, 12A0. -/
open Go.RowKit
set_option linter.unusedVariables false
set_option linter.unusedSimpArgs false
/- Plain law: the parts of a formula. No program in sight. Written by gen12E.py out of texts of chapter 14. -/
/-- the part of a formula at an index -/
def pt (f : Fm) (i : Nat) : Fm := (dc f i).headD .fls
theorem pt_at (f : Fm) (i : Nat) (h : i < (enc f).length) : ∃ rest, dc f i = pt f i :: rest ∧ dc f (i + 1) = kids (pt f i) ++ rest := by
  obtain ⟨g, rest, h1, h2, -⟩ := dc_at f i h
  have e : pt f i = g := by unfold pt; rw [h1]; rfl
  exact ⟨rest, by rw [e]; exact h1, by rw [e]; exact h2⟩
theorem pt_drop (f : Fm) (i : Nat) (h : i < (enc f).length) : ∃ rest, (enc f).drop i = enc (pt f i) ++ rest := by
  obtain ⟨rest, h1, -⟩ := pt_at f i h
  exact ⟨rest.flatMap enc, by rw [dc_drop f i (by omega), h1, List.flatMap_cons]⟩
theorem pt_next (f : Fm) (i : Nat) (h : i < (enc f).length) {k : UK} {a : Fm} (e : pt f i = .un k a) : i + 1 < (enc f).length ∧ pt f (i + 1) = a := by
  obtain ⟨rest, h1, h2⟩ := pt_at f i h
  rw [e] at h2
  have h3 : dc f (i + 1) = a :: rest := h2
  refine ⟨?_, by unfold pt; rw [h3]; rfl⟩
  have h4 := dc_drop f (i + 1) (by omega)
  rw [h3, List.flatMap_cons] at h4
  have h5 := congrArg List.length h4
  rw [List.length_drop, List.length_append] at h5
  have := enc_pos a
  omega
/-- a part of a formula -/
def Part (f g : Fm) : Prop := ∃ i, i < (enc f).length ∧ pt f i = g
theorem dc_more {f g : Fm} {i : Nat} {rest : List Fm} (hi : i ≤ (enc f).length) (h : dc f i = g :: rest) : i + (enc g).length ≤ (enc f).length := by
  have h4 := dc_drop f i hi
  rw [h, List.flatMap_cons] at h4
  have h5 := congrArg List.length h4
  rw [List.length_drop, List.length_append] at h5
  omega
theorem dc_next {f g : Fm} {i : Nat} {rest : List Fm} (hi : i ≤ (enc f).length) (h : dc f i = g :: rest) : dc f (i + 1) = kids g ++ rest := by
  have h1 := dc_more hi h
  have h2 := enc_pos g
  obtain ⟨g', rest', e1, e2, -⟩ := dc_at f i (by omega)
  rw [h] at e1
  injection e1 with e1 e3
  rw [e2, ← e1, ← e3]
theorem dc_skip {f : Fm} : ∀ {g : Fm} {i : Nat} {rest : List Fm}, i ≤ (enc f).length → dc f i = g :: rest → dc f (i + (enc g).length) = rest := by
  intro g
  induction g with
  | var s => intro i rest hi h; exact dc_next hi h
  | fls => intro i rest hi h; exact dc_next hi h
  | un k a ih =>
    intro i rest hi h
    have h1 := dc_more hi h
    have h2 : dc f (i + 1) = a :: rest := dc_next hi h
    have e : (enc (.un k a)).length = 1 + (enc a).length := by simp [enc]; omega
    rw [e] at h1 ⊢
    rw [← Nat.add_assoc]
    exact ih (by omega) h2
  | bin k a b iha ihb =>
    intro i rest hi h
    have h1 := dc_more hi h
    have h2 : dc f (i + 1) = a :: b :: rest := dc_next hi h
    have e : (enc (.bin k a b)).length = 1 + (enc a).length + (enc b).length := by simp [enc]; omega
    rw [e] at h1 ⊢
    have h3 := iha (by omega) h2
    have := ihb (by omega) h3
    rw [show i + (1 + (enc a).length + (enc b).length) = i + 1 + (enc a).length + (enc b).length by omega]
    exact this
theorem Part.of {f g : Fm} {i : Nat} {rest : List Fm} (hi : i ≤ (enc f).length) (h : dc f i = g :: rest) : Part f g := by
  have h1 := dc_more hi h
  have h2 := enc_pos g
  exact ⟨i, by omega, by unfold pt; rw [h]; rfl⟩
theorem Part.at {f g : Fm} (h : Part f g) : ∃ i rest, i < (enc f).length ∧ dc f i = g :: rest := by
  obtain ⟨i, hi, e⟩ := h
  obtain ⟨rest, h1, -⟩ := pt_at f i hi
  exact ⟨i, rest, hi, by rw [← e]; exact h1⟩
theorem Part.un {f a : Fm} {k : UK} (h : Part f (.un k a)) : Part f a := by
  obtain ⟨i, rest, hi, h1⟩ := h.at
  have h2 : dc f (i + 1) = a :: rest := dc_next (by omega) h1
  exact Part.of (by omega) h2
theorem Part.bin {f a b : Fm} {k : BK} (h : Part f (.bin k a b)) : Part f a ∧ Part f b := by
  obtain ⟨i, rest, hi, h1⟩ := h.at
  have h2 : dc f (i + 1) = a :: b :: rest := dc_next (by omega) h1
  have h3 := dc_skip (by omega) h2
  have h4 := dc_more (by omega) h2
  exact ⟨Part.of (by omega) h2, Part.of (by omega) h3⟩
theorem Part.self (f : Fm) : Part f f := Part.of (Nat.zero_le _) rfl
theorem part_ok {f g : Fm} (hok : f.ok = true) (h : Part f g) : g.ok = true := by
  obtain ⟨i, rest, hi, e⟩ := h.at
  have key : ∀ (j : Nat), j ≤ (enc f).length → ∀ q ∈ dc f j, q.ok = true := by
    intro j
    induction j with
    | zero => intro _ q hq; rw [show dc f 0 = [f] from rfl, List.mem_singleton] at hq; rw [hq]; exact hok
    | succ j ih =>
      intro hj q hq
      obtain ⟨g', rest', e1, e2, -⟩ := dc_at f j (by omega)
      rw [e2, List.mem_append] at hq
      have hg := ih (by omega)
      rw [e1] at hg
      rcases hq with hq | hq
      · have hg' := hg g' (by simp)
        cases g' with
        | var s => cases hq
        | fls => cases hq
        | un k a => simp only [kids, List.mem_singleton] at hq; rw [hq]; simpa [Fm.ok] using hg'
        | bin k a b => simp only [kids, List.mem_cons, List.not_mem_nil, or_false] at hq; simp [Fm.ok] at hg'; rcases hq with rfl | rfl; exact hg'.1; exact hg'.2
      · exact hg q (List.mem_cons_of_mem _ hq)
  exact key i (by omega) g (by rw [e]; simp)
theorem Sl.atS {w : World} {A : Option Addr} {n c : Nat} {xs : List ByteArray} (h : Sl cS w (.slice A n c) xs) {k : Nat} (hk : k < xs.length) :
    ∃ b o, A = some ⟨b, o, none⟩ ∧ b < w.heap.size ∧ w.cell? ⟨b, o + k, none⟩ = some (.string xs[k]) := by
  obtain ⟨b, o, hA, hb, hc⟩ := h.cell hk
  have := hc 0 (.string xs[k]) rfl
  exact ⟨b, o, hA, hb, by simpa [cS] using this⟩
/- Plain law: the texts of all parts of a formula, each once, in ascending order. No program in sight. -/
/-- the texts of the first parts of a formula -/
def sbT8 (f : Fm) (n : Nat) : List T8 := (List.range n).map fun i => t8 (txt (pt f i))
theorem sbT8_succ (f : Fm) (n : Nat) : sbT8 f (n + 1) = sbT8 f n ++ [t8 (txt (pt f n))] := by
  unfold sbT8
  rw [List.range_succ, List.map_append]
  rfl
theorem sbT8_len (f : Fm) (n : Nat) : (sbT8 f n).length = n := by simp [sbT8]
/-- what SubformulasOf gives -/
def sbs8 (f : Fm) : List T8 := sbI8 (sbT8 f (enc f).length)
theorem sbI8_succ (f : Fm) (n : Nat) : sbI8 (sbT8 f (n + 1)) = ins8 (t8 (txt (pt f n))) (sbI8 (sbT8 f n)) := by
  unfold sbI8
  rw [sbT8_succ, List.foldl_append]
  rfl
theorem sbI8_len (f : Fm) (n : Nat) : (sbI8 (sbT8 f n)).length ≤ n := by
  have := (foldI (sbT8 f n) [] List.Pairwise.nil).2.2
  rw [sbT8_len] at this
  exact this
theorem sbs8_mem {f : Fm} {t : T8} (h : t ∈ sbs8 f) : ∃ g, Part f g ∧ t = t8 (txt g) := by
  have := ((foldI (sbT8 f (enc f).length) [] List.Pairwise.nil).2.1 t).1 h
  rcases this with h | h
  · unfold sbT8 at h
    obtain ⟨i, hi, rfl⟩ := List.mem_map.1 h
    exact ⟨_, ⟨i, List.mem_range.1 hi, rfl⟩, rfl⟩
  · cases h
/- The reference's SubformulasOf: texts inserted into an ascending list. -/
/-- texts as byte arrays -/
def bs (L : List T8) : List ByteArray := L.map fun l => (⟨⟨l⟩⟩ : ByteArray)
theorem bs_length (L : List T8) : (bs L).length = L.length := by simp [bs]
theorem bs_get (L : List T8) (k : Nat) (h : k < (bs L).length) : (bs L)[k] = ⟨⟨L[k]'(by rw [bs_length] at h; exact h)⟩⟩ := by simp [bs]
theorem bs_app (L M : List T8) : bs (L ++ M) = bs L ++ bs M := by simp [bs]
theorem t8_mk (b : ByteArray) : (⟨⟨t8 b⟩⟩ : ByteArray) = b := rfl
theorem ty_str : Ty Tryz.prog 127 9 (.string ⟨#[]⟩) 1 16 := Ty.mk' Tryz.underlying127 (by kernel_rfl) rfl (by decide)
theorem part_pe (f : Fm) {i : Nat} (hi : i < (enc f).length) : pe ((enc f).drop i) 1 i = ((i + (enc (pt f i)).length : Nat) : Int) ∧ i + (enc (pt f i)).length ≤ (enc f).length ∧ ((enc f).drop i).take (enc (pt f i)).length = enc (pt f i) := by
  obtain ⟨rest, h1⟩ := pt_drop f i hi
  refine ⟨by rw [h1, pe_enc1]; omega, ?_, by rw [h1, List.take_left']; rfl⟩
  have h2 := congrArg List.length h1
  rw [List.length_drop, List.length_append] at h2
  omega
/- The library's slices.Sort and slices.Compact at []string, in the words of Mem; the program's SubformulasOf. -/
/-- lists of bytes as strings -/
def cL8 : Cod T8 := ⟨1, fun x => [.string ⟨⟨x⟩⟩], fun _ => rfl, by decide, fun _ u hu => by simp at hu; subst hu; rfl⟩
theorem flat_bs (L : List T8) : flat cS (bs L) = flat cL8 L := by
  induction L with
  | nil => rfl
  | cons x L ih => rw [bs, List.map_cons, flat_cons, flat_cons, show L.map (fun l => (⟨⟨l⟩⟩ : ByteArray)) = bs L from rfl, ih]; rfl
theorem Ow.l8 {e : TypeId} {B : Nat} {w : World} {v : Value} {L : List T8} (h : Ow cS e B w v (bs L)) : Ow cL8 e B w v L := by
  obtain ⟨⟨A, c, hv, hc, hm⟩, h2⟩ := h
  rw [bs_length] at hv hc
  refine ⟨⟨A, c, hv, hc, hm⟩, ?_⟩
  rw [flat_bs] at h2
  rw [bs_length] at h2
  exact h2
theorem Ow.s8 {e : TypeId} {B : Nat} {w : World} {v : Value} {L : List T8} (h : Ow cL8 e B w v L) : Ow cS e B w v (bs L) := by
  obtain ⟨⟨A, c, hv, hc, hm⟩, h2⟩ := h
  rw [← bs_length] at hv hc
  refine ⟨⟨A, c, hv, hc, hm⟩, ?_⟩
  rw [flat_bs, bs_length]
  exact h2
theorem flat_cL8 (L : List T8) : flat cL8 L = L.map Go.Proofs.encStr := by
  induction L with
  | nil => rfl
  | cons x L ih => rw [flat_cons, List.map_cons, ih]; rfl
/-- an owned row of texts behind the library's change of it, cut to its first ys -/
theorem Ow.put8 {e : TypeId} {B g c q : Nat} {w : World} {xs ys zs : List T8} {os : Array Obj} (h : Ow cL8 e B w (.slice (some ⟨g, 0, none⟩) xs.length c) xs) (hd : (ys ++ zs).length = xs.length) :
    Ow cL8 e B (Go.Sort.grow (Go.Sort.putRow Go.Proofs.encStr (Go.Sort.ahead w q) g 0 (ys ++ zs).toArray) os) (.slice (some ⟨g, 0, none⟩) ys.length c) ys ∧ Below B w (Go.Sort.grow (Go.Sort.putRow Go.Proofs.encStr (Go.Sort.ahead w q) g 0 (ys ++ zs).toArray) os) := by
  obtain ⟨⟨A, c', hv, hc, hm⟩, h1, h2⟩ := h
  injection hv with _ _ hcc
  subst hcc
  rcases h2 with ⟨h0, _⟩ | ⟨g', cap, cur, hg, hB, hr, hn, hcap, hsz, htk⟩
  · cases h0
  · injection hg with hg _ hcap'
    injection hg with hg
    have hg' : g = g' := by injection hg
    subst hg'
    subst hcap'
    have hyl : ys.length ≤ xs.length := by rw [← hd, List.length_append]; omega
    refine ⟨⟨⟨_, _, rfl, by omega, hm⟩, ?_, ?_⟩, ?_⟩
    · rw [flat_length]
    · refine .inr ⟨g, c, _, rfl, hB, heap_sorted _ hr, by omega, hcap, by simpa [Go.Sort.putCells] using hsz, ?_⟩
      have hcs : (ys ++ zs).length ≤ cur.size := by
        have e1 : cL8.size = 1 := rfl
        rw [hsz, e1, hd]; omega
      have := take_putCells cur (ys ++ zs) hcs
      have e2 := congrArg (List.take ys.length) this
      rw [List.take_take, Nat.min_eq_left (by simp)] at e2
      rw [show ys.length * cL8.size = ys.length from Nat.mul_one _, e2, flat_cL8, ← List.map_take, List.take_left']
      rfl
    · have hgb := grownBy_sorted (w := w) (g := g) (n := q) (os := os) (ys ++ zs).toArray
      exact ⟨hgb.os, hgb.tape, hgb.output, hgb.size, fun k hk => hgb.block k (Nat.lt_of_lt_of_le hk (Nat.le_trans hB (Nat.le_of_lt (Array.getElem?_eq_some_iff.1 hr).1))) (fun e => by injection e; omega)⟩
theorem Ow.holds8 {e : TypeId} {B g c : Nat} {w : World} {xs : List T8} (h : Ow cL8 e B w (.slice (some ⟨g, 0, none⟩) xs.length c) xs) : Go.Sort.Holds Go.Proofs.encStr w g 0 xs.toArray ∧ g < w.heap.size ∧ B ≤ g ∧ xs.length ≤ c ∧ c ≤ 9223372036854775807 := by
  obtain ⟨⟨A, c', hv, hc, hm⟩, h1, h2⟩ := h
  injection hv with _ _ hcc
  subst hcc
  rcases h2 with ⟨h0, _⟩ | ⟨g', cap, cur, hg, hB, hr, hn, hcap, hsz, htk⟩
  · cases h0
  · injection hg with hg _ hcap'
    injection hg with hg
    have hg' : g = g' := by injection hg
    subst hg'
    refine ⟨holds_of_block hr (by rw [← flat_cL8, ← htk, show xs.length * cL8.size = xs.length from Nat.mul_one _]), (Array.getElem?_eq_some_iff.1 hr).1, hB, hc, hm⟩
/-- an owned slice is nil, or lies at the head of a block -/
theorem Ow.cases8 {e : TypeId} {B : Nat} {w : World} {v : Value} {xs : List T8} (h : Ow cL8 e B w v xs) : (v = .slice none 0 0 ∧ xs = []) ∨ ∃ g c, v = .slice (some ⟨g, 0, none⟩) xs.length c := by
  obtain ⟨hv, h1, h2⟩ := h
  rcases h2 with ⟨h0, hn⟩ | ⟨g', cap, cur, hg, -⟩
  · exact .inl ⟨h0, List.eq_nil_of_length_eq_zero hn⟩
  · exact .inr ⟨g', cap, hg⟩
theorem beq8 (x y : T8) : (x == y) = decide (x = y) := by
  by_cases h : x = y
  · rw [decide_eq_true h, h]; simp
  · rw [decide_eq_false h]; simpa using h
theorem eql8 (P : Program) (T : TypeId) : EqlAt P T Go.Proofs.encStr (fun x y => decide (x = y)) := ⟨fun x y w => by
  refine Eq.trans ((EqlAt.string P T).1 ⟨⟨x⟩⟩ ⟨⟨y⟩⟩ w) ?_
  show Result.ok (Value.bool ((⟨⟨x⟩⟩ : ByteArray).toList == (⟨⟨y⟩⟩ : ByteArray).toList)) w = Result.ok (Value.bool (decide (x = y))) w
  rw [Go.ByteArray.toList_eq, Go.ByteArray.toList_eq]
  show Result.ok (Value.bool (x == y)) w = _
  rw [beq8], fun op a b x y w => (EqlAt.string P T).2 op a b ⟨⟨x⟩⟩ ⟨⟨y⟩⟩ w⟩
theorem neq8 (P : Program) (T : TypeId) : NeqAt P T Go.Proofs.encStr (fun x y => decide (x = y)) := ⟨fun x y w => by
  refine Eq.trans ((NeqAt.string P T).1 ⟨⟨x⟩⟩ ⟨⟨y⟩⟩ w) ?_
  show Result.ok (Value.bool (!((⟨⟨x⟩⟩ : ByteArray).toList == (⟨⟨y⟩⟩ : ByteArray).toList))) w = Result.ok (Value.bool (!decide (x = y))) w
  rw [Go.ByteArray.toList_eq, Go.ByteArray.toList_eq]
  show Result.ok (Value.bool (!(x == y))) w = _
  rw [beq8], fun op a b x y w => (NeqAt.string P T).2 op a b ⟨⟨x⟩⟩ ⟨⟨y⟩⟩ w⟩
/- slices.Grow and slices.Concat at strings. Written by gen12A.py. -/
/-- appending a make to nil: an empty slice of the call's own, with room -/
theorem grown_nilS (w : World) (n : Nat) (h0 : 0 < n) (hn : n ≤ 1048576) :
    ∃ w' cap, (∀ (ty : TypeId), (Builtin.append_ #[127, 3] ty #[.slice none 0 0, .int .i64 n]).run Tryz.prog w = .ok (.slice (some ⟨w.heap.size, 0, none⟩) n cap) w') ∧ n ≤ cap ∧ cap ≤ maxLen ∧
      Ow cS 9 w.heap.size w' (.slice (some ⟨w.heap.size, 0, none⟩) 0 cap) [] ∧ Below w.heap.size w w' := by
  obtain ⟨i, hi, hz, hsize, hby⟩ := ty_str.info
  have hs : i.size = 1 := hsize
  have hb : i.bytes = 16 := hby
  have hge := grownCap_ge w n 0 9
  have hle := grownCap_le_maxLen w n 0 9 (by simp only [maxLen]; omega)
  refine ⟨_, _, fun ty => Lib.run_append_nil_zeros w 127 3 ty 9 i _ .i64 .i64 ty_str.under Tryz.underlying3 hi hz n h0 (by omega) (by omega) (by rw [hb]; omega), hge, hle, ⟨⟨_, _, rfl, Nat.zero_le _, by have := hle; simp only [maxLen] at this; omega⟩, ?_⟩, ?_⟩
  · refine World.ownsRow_made _ _ _ (Nat.le_refl _) hle ?_
    show _ = grownCap w n 0 9 * 1
    have hc : (Value.string ⟨#[]⟩).cells.size = 1 := rfl
    simp only [Array.size_append, size_zeroCells, hc]
    omega
  · exact (below_drewN (Below.refl _ _) 1).alloc (Nat.le_refl _) _
end Go.Proofs.YtcikenffeekkeaaGreatDoor

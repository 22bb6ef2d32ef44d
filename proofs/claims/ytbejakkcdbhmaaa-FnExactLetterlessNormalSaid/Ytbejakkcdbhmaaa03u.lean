/- Contracts of the program's builders of formulas: falsum, join, negation, boxes, rankFormula, limited, RankFormula. -/
import Derived.Test.Ytbejakkcdbhmaaa03t
import Derived.Test.Ytbejakkcdbhmaaa03c
import Derived.Test.Ytbejakkcdbhmaaa03r
namespace Go.Proofs.Ytbejakkcdbhmaaa
open Go.RowKit
set_option linter.unusedVariables false
set_option linter.unusedSimpArgs false
theorem Sl2.three {α : Type} {K : Cod α} {w : World} {A B C : Option Addr} {n c m d p q : Nat} {xs ys zs : List α} (h : Sl K w (.slice A n c) xs) (h' : Sl K w (.slice B m d) ys) (h'' : Sl K w (.slice C p q) zs) (e : TypeId) (g : Nat) (hg : g = w.heap.size) :
    Sl2 K (w.alloc (.cells #[.slice A n c, .slice B m d, .slice C p q] e)) (.slice (some ⟨g, 0, none⟩) 3 3) [xs, ys, zs] := by
  subst hg
  refine ⟨[⟨A, n, c⟩, ⟨B, m, d⟩, ⟨C, p, q⟩], (Ow.lit (K := cH) (e := e) (B := w.heap.size) [⟨A, n, c⟩, ⟨B, m, d⟩, ⟨C, p, q⟩] rfl rfl (Nat.le_refl _)).sl, rfl, fun i a b => ?_⟩
  rcases (show i = 0 ∨ i = 1 ∨ i = 2 by simp at a; omega) with rfl | rfl | rfl
  · exact h.alloc _
  · exact h'.alloc _
  · exact h''.alloc _
theorem impl_falsum (w : World) :
    Calls Try.prog 192 #[] w fun e w' => ∃ u, e = .returned u ∧ Ow cN 95 w.heap.size w' u [(1, 0)] ∧ Below w.heap.size w w' := by
  go_enter Try.func192, Try.ntmps192
  go_wp2
  go_ret
  exact ⟨_, rfl, Ow.lit [(1, 0)] rfl rfl (Nat.le_refl _), (Below.refl _ _).alloc (Nat.le_refl _) _⟩
theorem impl_join (k : Int) (v u : Value) (xs ys : List Nd) (w : World) (h : Sl cN w v xs) (h' : Sl cN w u ys) (hl : xs.length ≤ 262144) (hl' : ys.length ≤ 262144) :
    Calls Try.prog 89 #[.int .i64 k, v, u] w fun e w' => ∃ r, e = .returned r ∧ Ow cN 95 w.heap.size w' r ([(k, 0)] ++ xs ++ ys) ∧ Below w.heap.size w w' := by
  obtain ⟨A, c, rfl⟩ := h.opn
  obtain ⟨B, d, rfl⟩ := h'.opn
  have hs := Sl2.three ((Ow.lit (K := cN) (e := 95) (B := w.heap.size) [(k, 0)] (cs := #[.int .i64 k, .int .i64 0]) (n := 1) rfl rfl (Nat.le_refl _)).sl) (h.alloc (.cells #[.int .i64 k, .int .i64 0] 95)) (h'.alloc (.cells #[.int .i64 k, .int .i64 0] 95)) 24 (w.heap.size + 1) (by simp)
  have H := Lib.hid (slices_Concat_nodes _ _ _ hs (by simp) (by simp <;> omega))
  clear h h' hs
  go_enter Try.func89, Try.ntmps89
  go_wp2_with fail
  refine H.out.mono ?_
  rintro e w1 ⟨r, rfl, ho, hb⟩
  have HB : Hid (Below w.heap.size w w1) := Lib.hid ((((Below.refl _ _).alloc (Nat.le_refl _) _).alloc (by simp) _).trans (hb.mono (by simp <;> omega)))
  have O : Hid (Ow cN 95 w.heap.size w1 r ([(k, 0)] ++ xs ++ ys)) := Lib.hid (by have := ho.mono (B' := w.heap.size) (by simp <;> omega); simpa using this)
  clear ho hb
  go_wp2
  go_ret
  exact ⟨_, rfl, O.out, HB.out⟩
theorem impl_negation (v : Value) (xs : List Nd) (w : World) (h : Sl cN w v xs) (hl : xs.length ≤ 262144) :
    Calls Try.prog 200 #[v] w fun e w' => ∃ r, e = .returned r ∧ Ow cN 95 w.heap.size w' r ([(4, 0)] ++ xs ++ [(1, 0)]) ∧ Below w.heap.size w w' := by
  obtain ⟨A, c, rfl⟩ := h.opn
  have H := Lib.hid h; clear h
  go_enter Try.func200, Try.ntmps200
  go_wp2_with fail
  refine (impl_falsum _).mono ?_
  rintro e w1 ⟨u, rfl, ho, hb⟩
  have HB := Lib.hid hb
  have O := Lib.hid ho
  clear ho hb
  go_wp2_with fail
  refine (impl_join 4 _ _ _ _ _ (H.out.below HB.out) O.out.sl hl (by simp)).mono ?_
  rintro e w2 ⟨r, rfl, ho, hb⟩
  have HB2 := Lib.hid (bthen HB.out hb)
  have hz := HB.out.size
  have O2 := Lib.hid ho
  clear ho hb
  go_wp2
  go_ret
  exact ⟨_, rfl, O2.out.mono (by omega), HB2.out⟩
theorem impl_boxes (n : Nat) (w : World) (hn : n ≤ 1024) :
    Calls Try.prog 255 #[.int .i64 n] w fun e w' => ∃ u, e = .returned u ∧ Ow cN 95 w.heap.size w' u (boxesL n) ∧ Below w.heap.size w w' := by
  have H := Lib.hid (slices_Repeat_node _ (5, 0) n _ (Ow.lit (K := cN) (e := 95) (B := w.heap.size) [(5, 0)] (cs := #[.int .i64 5, .int .i64 0]) (n := 1) rfl rfl (Nat.le_refl _)).sl hn)
  go_enter Try.func255, Try.ntmps255
  go_wp2_with fail
  refine H.out.mono ?_
  rintro e w1 ⟨u, rfl, ho, hb⟩
  have HB : Hid (Below w.heap.size w w1) := Lib.hid (((Below.refl _ _).alloc (Nat.le_refl _) _).trans (hb.mono (by simp)))
  have O := Lib.hid (ho.mono (B' := w.heap.size) (by simp))
  have hz := HB.out.size
  clear ho hb
  obtain ⟨A, c, rfl⟩ := O.out.opn
  have O3 : Hid (Ow cN 95 w.heap.size w1 (.slice A n c) (List.replicate n (5, 0))) := Lib.hid (by have := O.out; rwa [List.length_replicate] at this)
  clear O
  go_wp2_with (at_builtin; refine stopHere ?_)
  refine goHere ?_
  refine ap_sl (K := cN) _ ty_node rfl _ _ rfl rfl rfl (B := w.heap.size) (xs := List.replicate n (5, 0)) (news := [(1, 0)]) (O3.out.alloc _) (Ow.lit (K := cN) (e := 95) (B := w.heap.size) [(1, 0)] rfl rfl (by omega)).sl (by simp <;> omega) (by simp <;> omega) ?_
  intro v2 w2 ho hg hb hat
  have hb' : Below w.heap.size w w2 := (HB.out.alloc (by omega) _).trans hb
  have O2 := Lib.hid ho; clear ho hg hb hat
  go_wp2
  go_ret
  exact ⟨_, rfl, O2.out, hb'⟩
theorem impl_rankFormula (n : Nat) (w : World) (hn : n ≤ 512) :
    Calls Try.prog 199 #[.int .i64 n] w fun e w' => ∃ u, e = .returned u ∧ Ow cN 95 w.heap.size w' u (rankL n) ∧ Below w.heap.size w w' := by
  by_cases h : n = 0
  · subst h
    go_enter Try.func199, Try.ntmps199
    go_wp2_with fail
    refine (impl_boxes 1 _ (by omega)).mono ?_
    rintro e w1 ⟨u, rfl, ho, hb⟩
    have HB := Lib.hid hb
    have O := Lib.hid ho
    clear ho hb
    go_wp2
    go_ret
    exact ⟨_, rfl, O.out, HB.out⟩
  · have hw : IntKind.i64.wrap ((n : Int) + 1) = ((n + 1 : Nat) : Int) := by rw [IntWalk.i64_in _ ⟨by omega, by omega⟩]; omega
    have HR := Lib.hid (rankL_pos h)
    have hq : ((n : Int) == 0) = false := by simpa using h
    clear h
    go_enter Try.func199, Try.ntmps199
    go_wp2_with fail
    refine (impl_boxes (n + 1) _ (by omega)).mono ?_
    rintro e w1 ⟨u1, rfl, ho, hb⟩
    have HB := Lib.hid hb
    have O := Lib.hid ho
    clear ho hb
    go_wp2_with fail
    refine (impl_boxes n _ (by omega)).mono ?_
    rintro e w2 ⟨u2, rfl, ho, hb⟩
    have O1 := Lib.hid (O.out.below hb)
    have HB1 := Lib.hid (bthen HB.out hb)
    have O2 := Lib.hid ho
    clear ho hb
    go_wp2_with fail
    refine (impl_negation _ _ _ O2.out.sl (by rw [boxesL_length]; omega)).mono ?_
    rintro e w3 ⟨u3, rfl, ho, hb⟩
    have O3 := Lib.hid (O1.out.below hb)
    have HB2 := Lib.hid (bthen HB1.out hb)
    have O4 := Lib.hid ho
    clear ho hb
    go_wp2_with fail
    refine (impl_join 2 _ _ _ _ _ O3.out.sl O4.out.sl (by rw [boxesL_length]; omega) (by simp [boxesL_length]; omega)).mono ?_
    rintro e w4 ⟨u4, rfl, ho, hb⟩
    have HB3 := Lib.hid (bthen HB2.out hb)
    have hz := HB2.out.size
    have O5 := Lib.hid ho
    clear ho hb
    go_wp2
    go_ret
    exact ⟨_, rfl, by rw [HR.out]; exact O5.out.mono hz, HB3.out⟩
theorem impl_limited_yes (v : Value) (xs : List Nd) (w : World) (h : Sl cN w v xs) (hl : xs.length ≤ 40) :
    Calls Try.prog 86 #[v] w fun e w' => e = .returned (.tuple #[v, .int .i64 0]) ∧ w = w' := by
  obtain ⟨A, c, rfl⟩ := h.opn
  clear h
  generalize xs.length = L at *
  go_enter Try.func86, Try.ntmps86
  go_wp2
  go_ret2
  exact ⟨rfl, rfl⟩
theorem impl_limited_no (v : Value) (xs : List Nd) (w : World) (h : Sl cN w v xs) (hl : 40 < xs.length) :
    Calls Try.prog 86 #[v] w fun e w' => e = .returned (.tuple #[.slice none 0 0, .int .i64 3]) ∧ w = w' := by
  obtain ⟨A, c, rfl⟩ := h.opn
  clear h
  generalize xs.length = L at *
  go_enter Try.func86, Try.ntmps86
  go_wp2
  go_ret2
  exact ⟨rfl, rfl⟩
theorem impl_limited (v : Value) (xs : List Nd) (B : Nat) (w : World) (h : Ow cN 95 B w v xs) :
    Calls Try.prog 86 #[v] w fun e w' => ∃ u, e = .returned (.tuple #[u, .int .i64 (madeC xs)]) ∧ Ow cN 95 B w' u (madeL xs) ∧ w = w' := by
  unfold madeC madeL
  by_cases hl : xs.length ≤ 40
  · rw [if_pos hl, if_pos hl]
    exact (impl_limited_yes v xs w h.sl hl).mono fun e w' ⟨he, hw⟩ => ⟨v, he, hw ▸ h, hw⟩
  · rw [if_neg hl, if_neg hl]
    exact (impl_limited_no v xs w h.sl (by omega)).mono fun e w' ⟨he, hw⟩ => ⟨_, he, Ow.nil _ _, hw⟩
end Go.Proofs.Ytbejakkcdbhmaaa

/- Joined of several texts: LU, LN, LUs, LG, LM. -/
import Derived.Test.YtgdmfihnbbgcoaaGreatDoorMem
import Derived.Test.YtgdmfihnbbgcoaaGreatDoorB1
import Derived.Test.YtgdmfihnbbgcoaaGreatDoorLA
import Derived.Deep.CutRange
import Derived.Deep.DeepCutAuto
namespace Go.Proofs.YtgdmfihnbbgcoaaGreatDoor
open Go.RowKit
set_option linter.unusedVariables false
set_option linter.unusedSimpArgs false
/- The laws' own functions in one form, for the laws' walks: what is owned lies in a range of blocks; a mark changes that range alone. -/
/-- w' is w but for the blocks from B to H, and new ones -/
structure Keep (B H : Nat) (w w' : World) : Prop where
  os : w'.os = w.os
  tape : w'.tape = w.tape
  output : w'.output = w.output
  size : w.heap.size ≤ w'.heap.size
  block : ∀ k, k < w.heap.size → (k < B ∨ H ≤ k) → w'.heap[k]? = w.heap[k]?
theorem Keep.of_grown {B H : Nat} {w w' : World} {row : Option Nat} (h : w.grownBy w' row) (hr : ∀ k, row = some k → B ≤ k ∧ k < H) : Keep B H w w' :=
  ⟨h.os, h.tape, h.output, h.size, fun k hk hor => h.block k hk (fun e => by have := hr k e.symm; omega)⟩
theorem Keep.of_below {B H : Nat} {w w' : World} (h : Below w.heap.size w w') : Keep B H w w' := ⟨h.os, h.tape, h.output, h.size, fun k hk _ => h.block k hk⟩
theorem Keep.trans {B H : Nat} {a b c : World} (h : Keep B H a b) (k : Keep B H b c) : Keep B H a c :=
  ⟨k.os.trans h.os, k.tape.trans h.tape, k.output.trans h.output, Nat.le_trans h.size k.size, fun i hi ho => (k.block i (Nat.lt_of_lt_of_le hi h.size) ho).trans (h.block i hi ho)⟩
theorem Keep.mono {B H B' H' : Nat} {a b : World} (h : Keep B H a b) (h1 : B' ≤ B) (h2 : H ≤ H') : Keep B' H' a b :=
  ⟨h.os, h.tape, h.output, h.size, fun i hi ho => h.block i hi (by omega)⟩
theorem below_keep {b0 B H : Nat} {W w w' : World} (h : Below b0 W w) (k : Keep B H w w') (h1 : b0 ≤ B) (h2 : b0 ≤ w.heap.size) : Below b0 W w' :=
  ⟨k.os.trans h.os, k.tape.trans h.tape, k.output.trans h.output, Nat.le_trans h.size k.size, fun i hi => (k.block i (by omega) (by omega)).trans (h.block i hi)⟩
theorem Bk.keep {w w' : World} {g B H : Nat} {cs : Array Value} (h : Bk w g cs) (k : Keep B H w w') (hg : g < B ∨ H ≤ g) : Bk w' g cs :=
  ⟨Nat.lt_of_lt_of_le h.1 k.size, fun i => (World.cell?_of_block (k.block g h.1 hg)).trans (h.2 i)⟩

/-- a slice of the call's own, its block from B on and below H -/
def Ob {α : Type} (K : Cod α) (e : TypeId) (B H : Nat) (w : World) (v : Value) (xs : List α) : Prop := Ow K e B w v xs ∧ ∀ k, v.ownBlock = some k → k < H
section
variable {α : Type} {K : Cod α} {e : TypeId} {B H : Nat} {w w' : World} {v : Value} {xs : List α}
theorem Ow.ob (h : Ow K e B w v xs) : Ob K e B w.heap.size w v xs := ⟨h, fun k hk => (h.block k hk).2⟩
theorem Ob.sl (h : Ob K e B H w v xs) : Sl K w v xs := h.1.sl
theorem Ob.opn (h : Ob K e B H w v xs) : ∃ A c, v = .slice A xs.length c := h.1.opn
theorem Ob.below (h : Ob K e B H w v xs) (hb : Below w.heap.size w w') : Ob K e B H w' v xs := ⟨h.1.below hb, h.2⟩
theorem Ob.keep {B' H' : Nat} (h : Ob K e B H w v xs) (k : Keep B' H' w w') (hd : H ≤ B' ∨ H' ≤ B) : Ob K e B H w' v xs := by
  refine ⟨⟨h.1.1, h.1.2.1, ?_⟩, h.2⟩
  rcases h.1.2.2 with h2 | ⟨g, cap, cur, hv, hB, hg, r⟩
  · exact .inl h2
  · refine .inr ⟨g, cap, cur, hv, hB, ?_, r⟩
    have hH := h.2 g (by rw [hv]; rfl)
    exact (k.block g (Array.getElem?_eq_some_iff.1 hg).1 (by omega)).trans hg
theorem Ob.inv {ys : List α} (h : Ob K e B H w v xs) (h' : Ow K e B w' v ys) : Ob K e B H w' v ys := ⟨h', h.2⟩
end
theorem below_alloc' (w : World) (o : Obj) : Below w.heap.size w (w.alloc o) := (Below.refl _ _).alloc (Nat.le_refl _) o
theorem size_alloc' (w : World) (o : Obj) : (w.alloc o).heap.size = w.heap.size + 1 := by simp
/- Contracts of the laws' own functions on []Node: size, copy, comparison of alike ones, marks. -/
theorem ty_node : Ty Tryz.prog 37 70 (.agg #[.int .i64 0, .int .i64 0]) 2 16 := Ty.mk' Tryz.underlying37 (by kernel_rfl) rfl (by decide)
theorem sz_nodeS (v : Value) (xs : List Nd) (l : Int) (w : World) (h : Sl cN w v xs) (hl : -1 ≤ l ∧ l ≤ 1048576) :
    Calls Tryz.prog 7 #[v, .int .i64 l] w fun e w' => e = .returned (.int .i64 (szL l xs.length)) ∧ w = w' := by
  obtain ⟨A, c, rfl, hc, hm, hr⟩ := h
  by_cases hn : l - xs.length < 0
  · go_enter Tryz.func7, Tryz.ntmps7
    go_wp2
    go_ret
    exact ⟨by rw [szL_neg hn]; rfl, rfl⟩
  · go_enter Tryz.func7, Tryz.ntmps7
    go_wp2
    go_ret
    exact ⟨by rw [szL_pos (by omega)]; rfl, rfl⟩
theorem to_node (a b : Int) (w : World) :
    Calls Tryz.prog 41 #[.agg #[.int .i64 a, .int .i64 b]] w fun e w' => e = .returned (.agg #[.int .i64 a, .int .i64 b]) ∧ Below w.heap.size w w' := by
  go_enter Tryz.func41, Tryz.ntmps41
  go_wp2
  refine bodyPost_ret (v := .agg #[.int .i64 a, .int .i64 b]) (by simp [results, Tryz.results41, go_sem]) rfl ⟨rfl, ?_⟩
  repeat (first | exact Below.refl _ _ | refine Below.alloc ?_ (by simp <;> omega) _ | refine Below.setCell ?_ (by simp <;> omega) _ | refine below_drewN ?_ _)
theorem to_nodeS (v : Value) (xs : List Nd) (w : World) (h : Sl cN w v xs) (hl : xs.length ≤ 1048576) :
    Calls Tryz.prog 11 #[v] w fun e w' => ∃ u, e = .returned u ∧ Ow cN 70 w.heap.size w' u xs ∧ Below w.heap.size w w' := by
  obtain ⟨A, c, rfl⟩ := h.opn
  go_enter Tryz.func11, Tryz.ntmps11
  go_wp2_with (at_make; go_must (refine mk_full (K := cN) w ty_node rfl _ _ rfl w.heap.size xs.length (0, 0) rfl rfl rfl (by omega) (Nat.le_refl _) ?_; intro w1 ho1 hg1 hb1 hsz1))
  go_loopw [4] (fun i wr => ∃ k : Nat, k ≤ xs.length ∧ i = .int .i64 k ∧ Ow cN 70 w.heap.size wr (.slice (some ⟨w.heap.size, 0, none⟩) xs.length xs.length) (xs.take k ++ List.replicate (xs.length - k) (0, 0)) ∧ Below w.heap.size w wr) (fun i _ => xs.length - (intOf i).toNat)
  case atStart => exact ⟨0, Nat.zero_le _, rfl, by simpa using ho1, hb1⟩
  case round =>
    obtain ⟨k, hk, rfl, ho, hb⟩ := hrel
    by_cases hlt : k < xs.length
    · obtain ⟨b, o, rfl, hbl, hc0, hc1⟩ := (h.below hb).atN hlt
      go_wp2_with fail
      refine (to_node _ _ _).mono ?_
      rintro e w2 ⟨rfl, hb2⟩
      have ho2 := ho.below hb2
      have hb3 := hb.trans (hb2.mono hb.size)
      obtain ⟨hd0, hd1, hf0, hf1, hB1, hg1'⟩ := ho2.at2 (j := k) (by simp; omega)
      obtain ⟨u0, hd0⟩ : ∃ u0, w2.cell? ⟨w.heap.size, k * 2, none⟩ = some u0 := ⟨_, hd0⟩
      obtain ⟨u1, hd1⟩ : ∃ u1, w2.cell? ⟨w.heap.size, k * 2 + 1, none⟩ = some u1 := ⟨_, hd1⟩
      have hset := ho2.set2 (j := k) (a := xs[k].1) (b := xs[k].2) (by simp; omega)
      rw [show (xs[k].1, xs[k].2) = xs[k] from rfl, set_take_replicate xs (0, 0) k hlt] at hset
      have H := Lib.hid hset
      have HB := Lib.hid hb3
      clear ho ho2 hset hb hb2 hb3 hc0 hc1
      go_wp2
      go_roundw
      case rel => exact ⟨k + 1, by omega, by go_num, H.out, (HB.out.setCell (Nat.le_refl _) _).setCell (Nat.le_refl _) _⟩
      case measure => simp [intOf]; omega
    · obtain rfl : k = xs.length := by omega
      have ho' : Ow cN 70 w.heap.size wr (.slice (some ⟨w.heap.size, 0, none⟩) xs.length xs.length) xs := by simpa using ho
      clear ho
      go_wp2
      go_ret
      exact ⟨_, rfl, ho', hb⟩
theorem eq_node (a b : Int) (w : World) :
    Calls Tryz.prog 50 #[.agg #[.int .i64 a, .int .i64 b], .agg #[.int .i64 a, .int .i64 b]] w fun e w' => e = .returned (.bool true) ∧ Below w.heap.size w w' := by
  go_enter Tryz.func50, Tryz.ntmps50
  go_wp2
  go_ret
  exact ⟨rfl, by repeat (first | exact Below.refl _ _ | refine Below.alloc ?_ (by simp <;> omega) _ | refine below_drewN ?_ _)⟩
set_option maxRecDepth 100000 in
theorem eq_nodeS (v u : Value) (xs : List Nd) (w : World) (hx : Sl cN w v xs) (hy : Sl cN w u xs) (hn : xs.length ≤ 1073741824) :
    Calls Tryz.prog 15 #[v, u] w fun e w' => e = .returned (.bool true) ∧ Below w.heap.size w w' := by
  obtain ⟨A, c, rfl⟩ := hx.opn
  obtain ⟨B, d, rfl⟩ := hy.opn
  go_enter Tryz.func15, Tryz.ntmps15
  go_wp2
  go_loopw [5] (fun i wr => ∃ j : Nat, j ≤ xs.length ∧ i = .int .i64 j ∧ Below w.heap.size w wr) (fun i _ => xs.length - (intOf i).toNat)
  case atStart => exact ⟨0, Nat.zero_le _, rfl, Below.refl _ _⟩
  case round =>
    obtain ⟨j, hj, rfl, hb⟩ := hrel
    by_cases hlt : j < xs.length
    · obtain ⟨b, o, rfl, hbl, hc0, hc1⟩ := (hx.below hb).atN hlt
      obtain ⟨b', o', rfl, hbl', hc0', hc1'⟩ := (hy.below hb).atN hlt
      go_wp2
      go_still_tail 8, (by kernel_rfl)
      change wpList _ _ _ _ _ wr.drew
      have HB := Lib.hid hb.drew
      clear hb hc0 hc1 hc0' hc1' hbl hbl' hx hy
      generalize wr.drew = w2 at *
      go_wp2_with fail
      refine (eq_node _ _ _).mono ?_
      rintro e w3 ⟨rfl, hb3⟩
      have HB3 := Lib.hid (HB.out.trans (hb3.mono HB.out.size))
      clear hb3
      go_wp2
      go_roundw
      case rel => exact ⟨j + 1, by omega, by go_num, HB3.out⟩
      case measure => simp [intOf]; omega
    · go_wp2
      go_ret
      exact ⟨rfl, hb⟩
theorem set_numN (xs : List Nd) (k : Int) (j : Nat) (h : j < xs.length) (N : List Nd) (hN : N.length = j) (a b : Int) : (N ++ xs.drop j).set j (a, b) = (N ++ [(a, b)]) ++ xs.drop (j + 1) := by
  rw [List.set_append, if_neg (by omega), hN, Nat.sub_self, List.drop_eq_getElem_cons h, List.set_cons_zero, List.append_assoc]
  rfl
/-- the marks of nodes: k, k + 1; k + 2, k + 3 .. -/
def numN : Nat → Int → List Nd
  | 0, _ => []
  | n + 1, k => (k, k + 1) :: numN n (k + 2)
theorem numN_length (n : Nat) (k : Int) : (numN n k).length = n := by
  induction n generalizing k with
  | zero => rfl
  | succ n ih => simp [numN, ih]
theorem numN_snoc (n : Nat) (k : Int) : numN (n + 1) k = numN n k ++ [(k + 2 * n, k + 2 * n + 1)] := by
  induction n generalizing k with
  | zero => simp [numN]
  | succ n ih =>
    rw [numN, ih (k + 2), numN, List.cons_append]
    simp
    omega
theorem numN_get (n : Nat) (k : Int) (j : Nat) (h : j < (numN n k).length) : (numN n k)[j] = (k + 2 * j, k + 2 * j + 1) := by
  induction n generalizing k j with
  | zero => simp [numN] at h
  | succ n ih =>
    cases j with
    | zero => simp [numN]
    | succ j =>
      simp only [numN, List.getElem_cons_succ]
      rw [ih]
      simp
      omega
theorem mark_nodeS (v : Value) (xs : List Nd) (k : Int) (B : Nat) (w : World) (h : Ow cN 70 B w v xs) (hl : xs.length ≤ 268435456) (hk : 0 ≤ k ∧ k ≤ 1073741824) :
    Calls Tryz.prog 18 #[v, .int .i64 k] w fun e w' => e = .returned (.int .i64 (k + 2 * xs.length)) ∧ Ow cN 70 B w' v (numN xs.length k) ∧ w.grownBy w' v.ownBlock := by
  obtain ⟨A, c, rfl⟩ := h.opn
  have ho1 : Ow cN 70 B w (.slice A xs.length c) xs := h
  clear h
  go_enter Tryz.func18, Tryz.ntmps18
  go_wp2
  go_loopw [1, 5] (fun q i wr => ∃ j : Nat, j ≤ xs.length ∧ i = .int .i64 j ∧ q = .int .i64 (k + 2 * j) ∧ Ow cN 70 B wr (.slice A xs.length c) (numN j k ++ xs.drop j) ∧ w.grownBy wr (Value.ownBlock (.slice A xs.length c))) (fun _ i _ => xs.length - (intOf i).toNat)
  case atStart => exact ⟨0, Nat.zero_le _, rfl, by simp, by simpa [numN] using ho1, World.grownBy.refl _ _⟩
  case round =>
    obtain ⟨j, hj, rfl, rfl, ho, hg⟩ := hrel
    by_cases hlt : j < xs.length
    · obtain ⟨g, rfl, -, -⟩ := ho.head (by simp [numN_length]; omega)
      obtain ⟨hd0, hd1, hf0, hf1, hB1, hg1'⟩ := ho.at2 (j := j) (by simp [numN_length]; omega)
      obtain ⟨u0, hd0⟩ : ∃ u0, wr.cell? ⟨g, j * 2, none⟩ = some u0 := ⟨_, hd0⟩
      obtain ⟨u1, hd1⟩ : ∃ u1, wr.cell? ⟨g, j * 2 + 1, none⟩ = some u1 := ⟨_, hd1⟩
      have hset := ho.set2 (j := j) (a := k + 2 * j) (b := k + 2 * j + 1) (by simp [numN_length]; omega)
      rw [set_numN xs k j hlt _ (numN_length _ _), ← numN_snoc] at hset
      have H := Lib.hid hset
      have G := Lib.hid hg
      clear ho hset hg ho1
      go_wp2
      go_roundw
      case rel =>
        exact ⟨j + 1, by omega, by go_num, by go_num, H.out, grown_set (grown_set G.out rfl _ _) rfl _ _⟩
      case measure => simp [intOf]; omega
    · obtain rfl : j = xs.length := by omega
      have ho2 : Ow cN 70 B wr (.slice A xs.length c) (numN xs.length k) := by simpa using ho
      clear ho
      go_wp2
      go_ret
      exact ⟨rfl, ho2, hg⟩
/- The laws' own functions on slices in the one form. -/
theorem u_sz_SI (v : Value) (xs : List Int) (l : Int) (w : World) (h : Sl cI w v xs) (hl : -1 ≤ l ∧ l ≤ 1048576) :
    Calls Tryz.prog 31 #[v, .int .i64 l] w fun e w' => e = .returned (.int .i64 (szL l xs.length)) ∧ Below w.heap.size w w' :=
  (sz_int64S v xs l w h hl).mono fun e w' ⟨he, hw⟩ => ⟨he, hw ▸ Below.refl _ _⟩
theorem u_to_SI (v : Value) (xs : List Int) (w : World) (h : Sl cI w v xs) (hl : xs.length ≤ 1048576) :
    Calls Tryz.prog 40 #[v] w fun e w' => ∃ u, e = .returned u ∧ Ob cI 2 w.heap.size w'.heap.size w' u xs ∧ Below w.heap.size w w' :=
  (to_int64S v xs w h hl).mono fun e w' ⟨u, he, ho, hb⟩ => ⟨u, he, ho.ob, hb⟩
theorem u_eq_SI (v u : Value) (xs : List Int) (w : World) (hx : Sl cI w v xs) (hy : Sl cI w u xs) (hn : xs.length ≤ 268435456) :
    Calls Tryz.prog 28 #[v, u] w fun e w' => e = .returned (.bool true) ∧ Below w.heap.size w w' :=
  (eq_int64S v u xs xs w hx hy (by omega)).mono fun e w' ⟨he, q, hw⟩ => ⟨by rw [he]; simp, hw ▸ below_drewN (Below.refl _ _) q⟩
theorem u_mark_SI (v : Value) (xs : List Int) (k : Int) (B H : Nat) (w : World) (h : Ob cI 2 B H w v xs) (hl : xs.length ≤ 268435456) (hk : 0 ≤ k ∧ k ≤ 268435456) :
    Calls Tryz.prog 29 #[v, .int .i64 k] w fun e w' => e = .returned (.int .i64 (k + xs.length)) ∧ Ob cI 2 B H w' v (numL xs.length k) ∧ Keep B H w w' :=
  (mark_int64S v xs k B w h.1 (by omega) (by omega)).mono fun e w' ⟨he, ho, hg⟩ => ⟨he, h.inv ho, Keep.of_grown hg fun g hk => ⟨(h.1.block g hk).1, h.2 g hk⟩⟩
theorem u_held_SI (v : Value) (m : Nat) (k : Int) (w : World) (h : Sl cI w v (numL m k)) (hl : m ≤ 268435456) (hk : 0 ≤ k ∧ k ≤ 268435456) :
    Calls Tryz.prog 30 #[v, .int .i64 k] w fun e w' => e = .returned (.int .i64 (k + m)) ∧ Below w.heap.size w w' :=
  (held_int64S v _ k w h (by rw [numL_length]; omega) (by omega)).mono fun e w' ⟨he, hw⟩ => ⟨by rw [he, heldL_numL], hw ▸ Below.refl _ _⟩
theorem u_sz_SN (v : Value) (xs : List Nd) (l : Int) (w : World) (h : Sl cN w v xs) (hl : -1 ≤ l ∧ l ≤ 1048576) :
    Calls Tryz.prog 7 #[v, .int .i64 l] w fun e w' => e = .returned (.int .i64 (szL l xs.length)) ∧ Below w.heap.size w w' :=
  (sz_nodeS v xs l w h hl).mono fun e w' ⟨he, hw⟩ => ⟨he, hw ▸ Below.refl _ _⟩
theorem u_to_SN (v : Value) (xs : List Nd) (w : World) (h : Sl cN w v xs) (hl : xs.length ≤ 1048576) :
    Calls Tryz.prog 11 #[v] w fun e w' => ∃ u, e = .returned u ∧ Ob cN 70 w.heap.size w'.heap.size w' u xs ∧ Below w.heap.size w w' :=
  (to_nodeS v xs w h hl).mono fun e w' ⟨u, he, ho, hb⟩ => ⟨u, he, ho.ob, hb⟩
theorem u_eq_SN (v u : Value) (xs : List Nd) (w : World) (hx : Sl cN w v xs) (hy : Sl cN w u xs) (hn : xs.length ≤ 268435456) :
    Calls Tryz.prog 15 #[v, u] w fun e w' => e = .returned (.bool true) ∧ Below w.heap.size w w' := eq_nodeS v u xs w hx hy (by omega)
theorem u_mark_SN (v : Value) (xs : List Nd) (k : Int) (B H : Nat) (w : World) (h : Ob cN 70 B H w v xs) (hl : xs.length ≤ 268435456) (hk : 0 ≤ k ∧ k ≤ 268435456) :
    Calls Tryz.prog 18 #[v, .int .i64 k] w fun e w' => e = .returned (.int .i64 (k + 2 * xs.length)) ∧ Ob cN 70 B H w' v (numN xs.length k) ∧ Keep B H w w' :=
  (mark_nodeS v xs k B w h.1 (by omega) (by omega)).mono fun e w' ⟨he, ho, hg⟩ => ⟨he, h.inv ho, Keep.of_grown hg fun g hk => ⟨(h.1.block g hk).1, h.2 g hk⟩⟩
/- The laws' own functions on Frames in the one form. -/
theorem u_sz_Frame (b : Int) (v : Value) (xs : List Int) (l : Int) (w : World) (h : Sl cI w v xs) (hl : -1 ≤ l ∧ l ≤ 1048576) :
    Calls Tryz.prog 8 #[.agg #[.int .i64 b, v], .int .i64 l] w fun e w' => e = .returned (.int .i64 (szL l xs.length)) ∧ Below w.heap.size w w' := by
  have H1 := Lib.hid (u_sz_SI v xs l _ (h.alloc (.cells #[.int .i64 b, v] 24)) hl)
  rcases (show l - xs.length < 0 ∨ ¬ l - xs.length < 0 by omega) with q | q
  · rw [szL_neg q] at *
    clear h
    go_enter Tryz.func8, Tryz.ntmps8
    go_wp2_with fail
    refine H1.out.mono ?_
    rintro e w1 ⟨rfl, hb⟩
    have HB := Lib.hid (((Below.refl _ _).alloc (Nat.le_refl _) _).trans (hb.mono (by simp))); clear hb
    go_wp2
    go_ret
    exact ⟨rfl, HB.out⟩
  · rw [szL_pos q] at *
    clear h
    go_enter Tryz.func8, Tryz.ntmps8
    go_wp2_with fail
    refine H1.out.mono ?_
    rintro e w1 ⟨rfl, hb⟩
    have HB := Lib.hid (((Below.refl _ _).alloc (Nat.le_refl _) _).trans (hb.mono (by simp))); clear hb
    have q' : (decide (l - ↑xs.length < 0)) = false := decide_eq_false (by omega)
    go_wp2
    go_ret
    exact ⟨rfl, HB.out⟩
theorem u_eq_Frame (b : Int) (v u : Value) (xs : List Int) (w : World) (hx : Sl cI w v xs) (hy : Sl cI w u xs) (hn : xs.length ≤ 268435456) :
    Calls Tryz.prog 16 #[.agg #[.int .i64 b, v], .agg #[.int .i64 b, u]] w fun e w' => e = .returned (.bool true) ∧ Below w.heap.size w w' := by
  go_enter Tryz.func16, Tryz.ntmps16
  go_wp2_with fail
  refine (eq_int64S _ _ xs xs _ ((hx.alloc _).alloc _) ((hy.alloc _).alloc _) (by omega)).mono ?_
  rintro e w1 ⟨rfl, q, rfl⟩
  go_wp2
  go_ret
  exact ⟨rfl, by repeat (first | exact Below.refl _ _ | refine Below.alloc ?_ (by simp <;> omega) _ | refine below_drewN ?_ _)⟩
theorem u_mark_Frame (b : Int) (v : Value) (xs : List Int) (k : Int) (B H : Nat) (w : World) (h : Ob cI 2 B H w v xs) (hl : xs.length ≤ 268435456) (hk : 0 ≤ k ∧ k ≤ 268435456) :
    Calls Tryz.prog 19 #[.agg #[.int .i64 b, v], .int .i64 k] w fun e w' => e = .returned (.int .i64 (k + xs.length)) ∧ Ob cI 2 B H w' v (numL xs.length k) ∧ Keep B H w w' := by
  have key : Calls Tryz.prog 19 #[.agg #[.int .i64 b, v], .int .i64 k] w fun e w' => e = .returned (.int .i64 (k + xs.length)) ∧ Ow cI 2 B w' v (numL xs.length k) ∧ w.grownBy w' v.ownBlock := by
    have hO := h.1
    clear h
    go_enter Tryz.func19, Tryz.ntmps19
    go_wp2_with fail
    refine (mark_int64S _ xs _ B _ (hO.alloc _) (by omega) (by omega)).mono ?_
    rintro e w1 ⟨rfl, ho, hg⟩
    have G := Lib.hid (grown_alloc _ hg); clear hg
    have O := Lib.hid ho; clear ho
    go_wp2
    go_ret
    exact ⟨rfl, O.out, G.out⟩
  exact key.mono fun e w' ⟨he, ho, hg⟩ => ⟨he, h.inv ho, Keep.of_grown hg fun g hk => ⟨(h.1.block g hk).1, h.2 g hk⟩⟩
theorem u_held_Frame (b : Int) (v : Value) (m : Nat) (k : Int) (w : World) (h : Sl cI w v (numL m k)) (hl : m ≤ 268435456) (hk : 0 ≤ k ∧ k ≤ 268435456) :
    Calls Tryz.prog 51 #[.agg #[.int .i64 b, v], .int .i64 k] w fun e w' => e = .returned (.int .i64 (k + m)) ∧ Below w.heap.size w w' := by
  go_enter Tryz.func51, Tryz.ntmps51
  go_wp2_with fail
  refine (held_int64S _ _ _ _ (h.alloc _) (by rw [numL_length]; omega) (by omega)).mono ?_
  rintro e w1 ⟨rfl, rfl⟩
  rw [heldL_numL]
  go_wp2
  go_ret
  exact ⟨rfl, by repeat (first | exact Below.refl _ _ | refine Below.alloc ?_ (by simp <;> omega) _ | refine below_drewN ?_ _)⟩
theorem u_to_Frame (b : Int) (v : Value) (xs : List Int) (w : World) (h : Sl cI w v xs) (hl : xs.length ≤ 1048576) :
    Calls Tryz.prog 12 #[.agg #[.int .i64 b, v]] w fun e w' => ∃ u, e = .returned (.agg #[.int .i64 b, u]) ∧ Ob cI 2 w.heap.size w'.heap.size w' u xs ∧ Below w.heap.size w w' := by
  have H1 := Lib.hid (fun W (hW : Sl cI W v xs) => u_to_SI v xs W hW hl)
  have Hh := Lib.hid h
  clear h
  go_enter Tryz.func12, Tryz.ntmps12
  go_wp2_with fail
  refine (H1.out _ (((Hh.out.alloc _).alloc _).alloc _)).mono ?_
  rintro e w1 ⟨u, rfl, ho, hb⟩
  obtain ⟨A1, c1, rfl⟩ := ho.opn
  have f1 : Blk w1 (w.heap.size + 1) 31 #[.int .i64 0, .slice none 0 0] := ((Blk.new' (w.alloc (.cells #[.int .i64 b, v] 24)) 31 #[.int .i64 0, .slice none 0 0] (by simp)).alloc _).below hb (by simp)
  have f2 : Blk w1 (w.heap.size + 1 + 1) 31 #[.int .i64 b, .slice none 0 0] := (Blk.new' _ 31 #[.int .i64 b, .slice none 0 0] (by simp)).below hb (by simp)
  obtain ⟨k1, k2, k3⟩ := And.intro f1.cell (And.intro f1.frozen f1.lt)
  obtain ⟨j1, j2, j3⟩ := And.intro f2.cell (And.intro f2.frozen f2.lt)
  have HO := Lib.hid ho
  have hsz := hb.size
  simp at hsz
  have HB : Hid (Below w.heap.size w w1) := Lib.hid (((((Below.refl _ _).alloc (Nat.le_refl _) _).alloc (by simp) _).alloc (by simp <;> omega) _).trans (hb.mono (by simp <;> omega)))
  clear hb ho f1 f2
  go_wp2
  refine bodyPost_ret (v := .agg #[.int .i64 b, .slice A1 xs.length c1]) (by simp [results, Tryz.results12, go_sem, k1, k2, k3, j1, j2, j3]) rfl ⟨_, rfl, ?_, ?_⟩
  · have HO' : Ow cI 2 (w.heap.size + 3) w1 (.slice A1 xs.length c1) xs := by have := HO.out.1; simpa using this
    exact ((((HO'.setBelow (by show w.heap.size + 1 + 1 < w.heap.size + 3; omega) _).setBelow (by show w.heap.size + 1 < w.heap.size + 3; omega) _).setBelow (by show w.heap.size + 1 < w.heap.size + 3; omega) _).mono (by omega)).ob
  · exact ((HB.out.setCell (by show w.heap.size ≤ w.heap.size + 1 + 1; omega) _).setCell (by show w.heap.size ≤ w.heap.size + 1; omega) _).setCell (by show w.heap.size ≤ w.heap.size + 1; omega) _
/- The laws' own functions on Models in the one form: size, equality. -/
theorem m_eq_Model (b : Int) (v u v' u' : Value) (xs ys : List Int) (w : World) (hx : Sl cI w v xs) (hy : Sl cI w u xs) (hx' : Sl cI w v' ys) (hy' : Sl cI w u' ys) (hn : xs.length ≤ 268435456) (hn' : ys.length ≤ 268435456) :
    Calls Tryz.prog 14 #[.agg #[.int .i64 b, v, v'], .agg #[.int .i64 b, u, u']] w fun e w' => e = .returned (.bool true) ∧ Below w.heap.size w w' := by
  have hb0 := below_alloc' w (.cells #[.int .i64 b, v, v'] 33)
  have hk0 := Blk.new w 33 #[.int .i64 b, v, v']
  have hb1 := below_alloc' (w.alloc (.cells #[.int .i64 b, v, v'] 33)) (.cells #[.int .i64 b, u, u'] 33)
  have hk1 : Blk _ (w.heap.size + 1) _ _ := Blk.new' (w.alloc (.cells #[.int .i64 b, v, v'] 33)) 33 #[.int .i64 b, u, u'] (by simp)
  have HB := Lib.hid (bthen hb0 hb1)
  have HK0 := Lib.hid (hk0.below hb1 hk0.lt)
  have HK1 := Lib.hid hk1
  have H1 := Lib.hid (fun W (hW : Below w.heap.size w W) => u_eq_Frame b v u xs W (hx.below hW) (hy.below hW) hn)
  have H2 := Lib.hid (fun W (hW : Below w.heap.size w W) => eq_int64S v' u' ys ys W (hx'.below hW) (hy'.below hW) (by omega))
  clear hb0 hb1 hk0 hk1 hx hy hx' hy'
  go_enter Tryz.func14, Tryz.ntmps14
  go_upto_region 1 with fail
  generalize World.alloc (w.alloc _) _ = W at *
  have k0 := HK0.out.cell
  have k1 := HK1.out.cell
  have l0 := HK0.out.lt
  have l1 := HK1.out.lt
  go_wp2_with fail
  refine (H1.out _ HB.out).mono ?_
  rintro e w1 ⟨rfl, hb⟩
  have HB1 := Lib.hid (bthen HB.out hb)
  have j0 := (HK0.out.below hb l0).cell
  have j1 := (HK1.out.below hb l1).cell
  clear k0 k1 hb
  go_wp2_with fail
  refine (H2.out _ HB1.out).mono ?_
  rintro e w2 ⟨rfl, q, rfl⟩
  have e1 : decide (ys = ys) = true := by simp
  go_wp2
  go_ret
  exact ⟨rfl, below_drewN HB1.out _⟩
theorem m_sz_Model (b : Int) (v v' : Value) (xs ys : List Int) (l : Int) (w : World) (h : Sl cI w v xs) (h' : Sl cI w v' ys) (hl : -1 ≤ l ∧ l ≤ 1048576) :
    Calls Tryz.prog 6 #[.agg #[.int .i64 b, v, v'], .int .i64 l] w fun e w' => e = .returned (.int .i64 (szL l (xs.length + ys.length : Nat))) ∧ Below w.heap.size w w' := by
  have hb0 := below_alloc' w (.cells #[.int .i64 b, v, v'] 26)
  have hk0 := Blk.new w 26 #[.int .i64 b, v, v']
  have HB := Lib.hid hb0
  have HK0 := Lib.hid hk0
  have H1 := Lib.hid (fun W (hW : Below w.heap.size w W) => u_sz_Frame b v xs l W (h.below hW) hl)
  have H2 := Lib.hid (fun (l : Int) (hl : -1 ≤ l ∧ l ≤ 1048576) W (hW : Below w.heap.size w W) => u_sz_SI v' ys l W (h'.below hW) hl)
  clear hb0 hk0 h h'
  rcases (show l - xs.length < 0 ∨ ¬ l - xs.length < 0 by omega) with q | q
  · rw [szL_neg q] at H1
    rw [szL_neg (by omega)]
    go_enter Tryz.func6, Tryz.ntmps6
    go_upto_region 1 with fail
    generalize World.alloc w _ = W at *
    have k0 := HK0.out.cell
    go_wp2_with fail
    refine (H1.out _ HB.out).mono ?_
    rintro e w1 ⟨rfl, hb⟩
    have HB1 := Lib.hid (bthen HB.out hb)
    clear k0 hb
    go_wp2
    go_ret
    exact ⟨rfl, HB1.out⟩
  · rw [szL_pos q] at H1
    have q' : (decide (l - ↑xs.length < 0)) = false := decide_eq_false (by omega)
    rcases (show l - xs.length - ys.length < 0 ∨ ¬ l - xs.length - ys.length < 0 by omega) with r | r
    all_goals
      have H3 := Lib.hid (H2.out (l - xs.length) (by omega))
      first | rw [szL_neg r] at H3 | rw [szL_pos r] at H3
      first | rw [szL_neg (show l - ((xs.length + ys.length : Nat) : Int) < 0 by omega)] | rw [szL_pos (show ¬ l - ((xs.length + ys.length : Nat) : Int) < 0 by omega), show l - ((xs.length + ys.length : Nat) : Int) = l - xs.length - ys.length by omega]
      first | have r' : (decide (l - ↑xs.length - ↑ys.length < 0)) = true := decide_eq_true r | have r' : (decide (l - ↑xs.length - ↑ys.length < 0)) = false := decide_eq_false r
      go_enter Tryz.func6, Tryz.ntmps6
      go_upto_region 1 with fail
      generalize World.alloc w _ = W at *
      have k0 := HK0.out.cell
      have l0 := HK0.out.lt
      go_wp2_with fail
      refine (H1.out _ HB.out).mono ?_
      rintro e w1 ⟨rfl, hb⟩
      have HB1 := Lib.hid (bthen HB.out hb)
      have k1 := (HK0.out.below hb l0).cell
      clear k0 hb
      go_wp2_with fail
      refine (H3.out _ HB1.out).mono ?_
      rintro e w2 ⟨rfl, hb⟩
      have HB2 := Lib.hid (bthen HB1.out hb)
      clear k1 hb
      go_wp2
      go_ret
      exact ⟨rfl, HB2.out⟩
theorem m_to_Model (b : Int) (v v' : Value) (xs ys : List Int) (w : World) (h : Sl cI w v xs) (h' : Sl cI w v' ys) (hl : xs.length ≤ 1048576) (hl' : ys.length ≤ 1048576) :
    Calls Tryz.prog 10 #[.agg #[.int .i64 b, v, v']] w fun e w' => ∃ u u' H, e = .returned (.agg #[.int .i64 b, u, u']) ∧ w.heap.size ≤ H ∧ H ≤ w'.heap.size ∧ Ob cI 2 w.heap.size H w' u xs ∧ Ob cI 2 H w'.heap.size w' u' ys ∧ Below w.heap.size w w' := by
  obtain ⟨A, c, rfl⟩ := h.opn
  obtain ⟨A', c', rfl⟩ := h'.opn
  have H1 := Lib.hid (fun W (hW : Below w.heap.size w W) => u_to_Frame b _ xs W (h.below hW) hl)
  have H2 := Lib.hid (fun W (hW : Below w.heap.size w W) => u_to_SI _ ys W (h'.below hW) hl')
  have hb0 := below_alloc' w (.cells #[.int .i64 b, .slice A xs.length c, .slice A' ys.length c'] 26)
  have hk0 := Blk.new w 26 #[.int .i64 b, .slice A xs.length c, .slice A' ys.length c']
  clear h h'
  obtain ⟨W, hW⟩ : ∃ W, ((w.alloc (.cells #[.int .i64 b, .slice A xs.length c, .slice A' ys.length c'] 26)).alloc (.cells #[.int .i64 0, .slice none 0 0, .slice none 0 0] 33)).alloc (.cells #[.int .i64 0, .slice none 0 0, .slice none 0 0] 33) = W := ⟨_, rfl⟩
  have HW : Hid (Below w.heap.size w W) := Lib.hid (by rw [← hW]; exact (((hb0.alloc (by simp) _)).alloc (by simp <;> omega) _))
  have hbW : Below (w.heap.size + 1) (w.alloc (.cells #[.int .i64 b, .slice A xs.length c, .slice A' ys.length c'] 26)) W := by rw [← hW]; exact (((Below.refl _ _).alloc (by simp) _).alloc (by simp <;> omega) _)
  have HK := Lib.hid (hk0.below hbW (by omega))
  have HR : Hid (Blk W (w.heap.size + 1) 33 #[.int .i64 0, .slice none 0 0, .slice none 0 0]) := Lib.hid (by rw [← hW]; exact (Blk.new' _ _ _ (by simp)).alloc _)
  have HT : Hid (Blk W (w.heap.size + 1 + 1) 33 #[.int .i64 0, .slice none 0 0, .slice none 0 0]) := Lib.hid (by rw [← hW]; exact Blk.new' _ _ _ (by simp))
  have hWs : W.heap.size = w.heap.size + 3 := by rw [← hW]; simp
  go_enter Tryz.func10, Tryz.ntmps10
  go_upto_region 2 with fail
  try rw [hW]
  clear hW hbW hb0 hk0
  have k0 := HK.out.cell
  have l0 := HK.out.lt
  have l1 := HR.out.lt
  have l2 := HT.out.lt
  go_wp2_with fail
  refine (H1.out _ HW.out).mono ?_
  rintro e w1 ⟨u, rfl, ho, hb⟩
  obtain ⟨A1, c1, rfl⟩ := ho.opn
  have hz1 := hb.size
  have HK1 := Lib.hid (HK.out.below hb l0)
  have HR1 := Lib.hid (HR.out.below hb l1)
  have HT1 := Lib.hid (HT.out.below hb l2)
  have HO1 := Lib.hid ho
  have HB1 := Lib.hid (bthen HW.out hb)
  have k1 := HK1.out.cell
  have j1 := HT1.out.cell
  have f1 := HT1.out.frozen
  have m0 := HK1.out.lt
  have m1 := HR1.out.lt
  have m2 := HT1.out.lt
  clear k0 ho hb
  go_upto_region 3 with fail
  have HK2 := Lib.hid ((HK1.out.far (p := ⟨w.heap.size + 1 + 1, 0, none⟩) (by show w.heap.size ≠ w.heap.size + 1 + 1; omega) (.int .i64 b)).far (p := ⟨w.heap.size + 1 + 1, 1, none⟩) (by show w.heap.size ≠ w.heap.size + 1 + 1; omega) (.slice A1 xs.length c1))
  have HR2 := Lib.hid ((HR1.out.far (p := ⟨w.heap.size + 1 + 1, 0, none⟩) (by show w.heap.size + 1 ≠ w.heap.size + 1 + 1; omega) (.int .i64 b)).far (p := ⟨w.heap.size + 1 + 1, 1, none⟩) (by show w.heap.size + 1 ≠ w.heap.size + 1 + 1; omega) (.slice A1 xs.length c1))
  have HT2 : Hid (Blk _ (w.heap.size + 1 + 1) 33 #[.int .i64 b, .slice A1 xs.length c1, .slice none 0 0]) := Lib.hid ((HT1.out.set_ 0 (.int .i64 b)).set_ 1 (.slice A1 xs.length c1))
  have HO2 : Hid (Ow cI 2 W.heap.size _ (.slice A1 xs.length c1) xs) := Lib.hid ((HO1.out.1.setBelow (p := ⟨w.heap.size + 1 + 1, 0, none⟩) l2 (.int .i64 b)).setBelow (p := ⟨w.heap.size + 1 + 1, 1, none⟩) l2 (.slice A1 xs.length c1))
  have HB2 := Lib.hid ((HB1.out.setCell (p := ⟨w.heap.size + 1 + 1, 0, none⟩) (by show w.heap.size ≤ w.heap.size + 1 + 1; omega) (.int .i64 b)).setCell (p := ⟨w.heap.size + 1 + 1, 1, none⟩) (by show w.heap.size ≤ w.heap.size + 1 + 1; omega) (.slice A1 xs.length c1))
  have hz2 : ((w1.setCell ⟨w.heap.size + 1 + 1, 0, none⟩ (.int .i64 b)).setCell ⟨w.heap.size + 1 + 1, 1, none⟩ (.slice A1 xs.length c1)).heap.size = w1.heap.size := by simp
  clear k1 j1 f1 HK1 HR1 HT1 HB1
  generalize (w1.setCell ⟨w.heap.size + 1 + 1, 0, none⟩ (.int .i64 b)).setCell ⟨w.heap.size + 1 + 1, 1, none⟩ (.slice A1 xs.length c1) = W2 at *
  have k2 := HK2.out.cell
  have n0 := HK2.out.lt
  have n1 := HR2.out.lt
  have n2 := HT2.out.lt
  go_wp2_with fail
  refine (H2.out _ HB2.out).mono ?_
  rintro e w3 ⟨u', rfl, ho, hb⟩
  obtain ⟨A3, c3, rfl⟩ := ho.opn
  have hz3 := hb.size
  have HR3 := Lib.hid (HR2.out.below hb n1)
  have HT3 := Lib.hid (HT2.out.below hb n2)
  have HO3 := Lib.hid (HO2.out.below hb)
  have HP3 := Lib.hid ho
  have HB3 := Lib.hid (bthen HB2.out hb)
  have j3 := HT3.out.cell
  have f3 := HT3.out.frozen
  have p2 := HT3.out.lt
  have r3 := HR3.out.cell
  have g3 := HR3.out.frozen
  have p1 := HR3.out.lt
  clear k2 ho hb
  go_wp2
  refine bodyPost_ret (v := .agg #[.int .i64 b, .slice A1 xs.length c1, .slice A3 ys.length c3]) (by simp [results, Tryz.results10, go_sem, r3, g3, p1, j3, f3, p2]) rfl ⟨_, _, W2.heap.size, rfl, by omega, ?_, ?_, ?_, ?_⟩
  · simp; omega
  · refine ⟨(((((HO3.out.setBelow (by show w.heap.size + 1 + 1 < W.heap.size; omega) _).setBelow (by show w.heap.size + 1 < W.heap.size; omega) _).setBelow (by show w.heap.size + 1 < W.heap.size; omega) _).setBelow (by show w.heap.size + 1 < W.heap.size; omega) _)).mono (by omega), ?_⟩
    rw [hz2]
    exact HO1.out.2
  · refine Ow.ob ?_
    exact ((((HP3.out.1.setBelow (by show w.heap.size + 1 + 1 < W2.heap.size; omega) _).setBelow (by show w.heap.size + 1 < W2.heap.size; omega) _).setBelow (by show w.heap.size + 1 < W2.heap.size; omega) _).setBelow (by show w.heap.size + 1 < W2.heap.size; omega) _)
  · exact (((HB3.out.setCell (by show w.heap.size ≤ w.heap.size + 1 + 1; omega) _).setCell (by show w.heap.size ≤ w.heap.size + 1; omega) _).setCell (by show w.heap.size ≤ w.heap.size + 1; omega) _).setCell (by show w.heap.size ≤ w.heap.size + 1; omega) _
theorem m_mark_Model (b : Int) (v v' : Value) (xs ys : List Int) (k : Int) (B H H' : Nat) (w : World) (h : Ob cI 2 B H w v xs) (h' : Ob cI 2 H H' w v' ys) (hBH : B ≤ H) (hHH : H ≤ H') (hw : H' ≤ w.heap.size) (hl : xs.length ≤ 268435456) (hl' : ys.length ≤ 268435456) (hk : 0 ≤ k ∧ k ≤ 268435456) :
    Calls Tryz.prog 17 #[.agg #[.int .i64 b, v, v'], .int .i64 k] w fun e w' => e = .returned (.int .i64 (k + xs.length + ys.length)) ∧ Ob cI 2 B H w' v (numL xs.length k) ∧ Ob cI 2 H H' w' v' (numL ys.length (k + xs.length)) ∧ Keep B H' w w' := by
  have hb0 := below_alloc' w (.cells #[.int .i64 b, v, v'] 33)
  have hk0 := Blk.new w 33 #[.int .i64 b, v, v']
  have HK0 := Lib.hid hk0
  have HA := Lib.hid (h.below hb0)
  have HA' := Lib.hid (h'.below hb0)
  have HB := Lib.hid (Keep.of_below (B := B) (H := H') hb0)
  have hlo : ∀ g, v.ownBlock = some g → g < w.heap.size := fun g hg => (h.1.block g hg).2
  have hlo' : ∀ g, v'.ownBlock = some g → g < w.heap.size := fun g hg => (h'.1.block g hg).2
  have HLO := Lib.hid hlo
  have HLO' := Lib.hid hlo'
  clear h h' hb0 hk0 hlo hlo'
  go_enter Tryz.func17, Tryz.ntmps17
  go_upto_region 1 with fail
  generalize World.alloc w _ = W at *
  have k0 := HK0.out.cell
  have l0 := HK0.out.lt
  go_wp2_with fail
  refine (u_mark_Frame b v xs k B H _ HA.out (by omega) hk).mono ?_
  rintro e w1 ⟨rfl, ho, hkp⟩
  have hk1 : Blk w1 w.heap.size 33 #[.int .i64 b, v, v'] := (hkp.block _ l0 (.inr (by omega))).trans HK0.out
  have k1 := hk1.cell
  have m0 := hk1.lt
  have HO := Lib.hid ho
  have HA1 := Lib.hid (HA'.out.keep hkp (.inr (Nat.le_refl _)))
  have HB1 := Lib.hid (HB.out.trans (hkp.mono (Nat.le_refl _) hHH))
  clear k0 ho hkp hk1
  go_wp2_with fail
  refine (mark_int64S v' ys (k + xs.length) H _ HA1.out.1 (by omega) (by omega)).mono ?_
  rintro e w2 ⟨rfl, ho2, hg⟩
  have hkp2 : Keep H H' w1 w2 := Keep.of_grown hg fun g hk => ⟨(HA1.out.1.block g hk).1, HA1.out.2 g hk⟩
  have HO2 := Lib.hid (HO.out.keep hkp2 (.inl (Nat.le_refl _)))
  have HP2 := Lib.hid (HA1.out.inv ho2)
  have HB2 := Lib.hid (HB1.out.trans (hkp2.mono hBH (Nat.le_refl _)))
  clear k1 ho2 hg hkp2
  go_wp2
  go_ret
  exact ⟨rfl, HO2.out, HP2.out, HB2.out⟩
/-! The same in the form that genlaw.py's walks take: each slice with what it reads. -/
theorem u_sz_Model (b : Int) (v : Value) (xs : List Int) (v' : Value) (ys : List Int) (l : Int) (w : World) (h : Sl cI w v xs) (h' : Sl cI w v' ys) (hl : -1 ≤ l ∧ l ≤ 1048576) :
    Calls Tryz.prog 6 #[.agg #[.int .i64 b, v, v'], .int .i64 l] w fun e w' => e = .returned (.int .i64 (szL l (xs.length + ys.length : Nat))) ∧ Below w.heap.size w w' := m_sz_Model b v v' xs ys l w h h' hl
theorem u_eq_Model (b : Int) (v u : Value) (xs : List Int) (v' u' : Value) (ys : List Int) (w : World) (hx : Sl cI w v xs) (hx' : Sl cI w v' ys) (hy : Sl cI w u xs) (hy' : Sl cI w u' ys) (hn : xs.length + ys.length ≤ 268435456) :
    Calls Tryz.prog 14 #[.agg #[.int .i64 b, v, v'], .agg #[.int .i64 b, u, u']] w fun e w' => e = .returned (.bool true) ∧ Below w.heap.size w w' := m_eq_Model b v u v' u' xs ys w hx hy hx' hy' (by omega) (by omega)
theorem u_to_Model (b : Int) (v : Value) (xs : List Int) (v' : Value) (ys : List Int) (w : World) (h : Sl cI w v xs) (h' : Sl cI w v' ys) (hl : xs.length + ys.length ≤ 1048576) :
    Calls Tryz.prog 10 #[.agg #[.int .i64 b, v, v']] w fun e w' => ∃ u u' H, e = .returned (.agg #[.int .i64 b, u, u']) ∧ w.heap.size ≤ H ∧ H ≤ w'.heap.size ∧ Ob cI 2 w.heap.size H w' u xs ∧ Ob cI 2 H w'.heap.size w' u' ys ∧ Below w.heap.size w w' := m_to_Model b v v' xs ys w h h' (by omega) (by omega)
theorem u_mark_Model (b : Int) (v : Value) (xs : List Int) (v' : Value) (ys : List Int) (k : Int) (B H H' : Nat) (w : World) (h : Ob cI 2 B H w v xs) (h' : Ob cI 2 H H' w v' ys) (hs : B ≤ H ∧ H ≤ H' ∧ H' ≤ w.heap.size) (hl : xs.length + ys.length ≤ 268435456) (hk : 0 ≤ k ∧ k ≤ 268435456) :
    Calls Tryz.prog 17 #[.agg #[.int .i64 b, v, v'], .int .i64 k] w fun e w' => e = .returned (.int .i64 (k + xs.length + ys.length)) ∧ Ob cI 2 B H w' v (numL xs.length k) ∧ Ob cI 2 H H' w' v' (numL ys.length (k + xs.length)) ∧ Keep B H' w w' := m_mark_Model b v v' xs ys k B H H' w h h' hs.1 hs.2.1 hs.2.2 (by omega) (by omega) hk
theorem u_held_Model (b : Int) (v : Value) (m : Nat) (v' : Value) (m' : Nat) (k : Int) (w : World) (h : Sl cI w v (numL m k)) (h' : Sl cI w v' (numL m' (k + m))) (hl : m + m' ≤ 268435456) (hk : 0 ≤ k ∧ k ≤ 268435456) :
    Calls Tryz.prog 20 #[.agg #[.int .i64 b, v, v'], .int .i64 k] w fun e w' => e = .returned (.int .i64 (k + m + m')) ∧ Below w.heap.size w w' := by
  have hb0 := below_alloc' w (.cells #[.int .i64 b, v, v'] 33)
  have hk0 := Blk.new w 33 #[.int .i64 b, v, v']
  have HB := Lib.hid hb0
  have HK0 := Lib.hid hk0
  have H1 := Lib.hid (fun W (hW : Below w.heap.size w W) => u_held_Frame b v m k W (h.below hW) (by omega) hk)
  have H2 := Lib.hid (fun W (hW : Below w.heap.size w W) => held_int64S v' _ (k + m) W (h'.below hW) (by rw [numL_length]; omega) (by omega))
  have h1 : decide ((k + (m : Int)) < 0) = false := decide_eq_false (by omega)
  have h2 : decide ((k + (m : Int) + (m' : Int)) < 0) = false := decide_eq_false (by omega)
  clear hb0 hk0 h h'
  go_enter Tryz.func20, Tryz.ntmps20
  go_upto_region 1 with fail
  generalize World.alloc w _ = W at *
  have k0 := HK0.out.cell
  have l0 := HK0.out.lt
  go_wp2_with fail
  refine (H1.out _ HB.out).mono ?_
  rintro e w1 ⟨rfl, hb⟩
  have HB1 := Lib.hid (bthen HB.out hb)
  have k1 := (HK0.out.below hb l0).cell
  have l1 := (HK0.out.below hb l0).lt
  clear k0 hb
  go_wp2_with fail
  refine (H2.out _ HB1.out).mono ?_
  rintro e w2 ⟨rfl, rfl⟩
  rw [heldL_numL]
  go_wp2
  go_ret
  exact ⟨rfl, HB1.out⟩
end Go.Proofs.YtgdmfihnbbgcoaaGreatDoor

/- Joined of several texts: LU, LN, LUs, LG, LM. -/
import Derived.Test.YtcikenffeekkeaaGreatDoorY00
import Derived.Test.YtcikenffeekkeaaGreatDoorY02
import Derived.Test.YtcikenffeekkeaaGreatDoorY01
import Derived.Deep.CutRange
import Derived.Deep.DeepCutAuto
namespace Go.Proofs.YtcikenffeekkeaaGreatDoor
open Go.RowKit
set_option linter.unusedVariables false
set_option linter.unusedSimpArgs false
/- The laws' own functions in one form, for the laws' walks: what is owned lies in a range of blocks; a mark changes that range alone. -/
/-- w' is w but for the blocks from B to H, and new ones -/
structure Keep (B H : Nat) (w w' : World) : Prop where
  os : w'.os = w.os
  tape : w'.tape = w.tape
  output : w'.output = w.output
  size : w.heap.size ≤ w'.heap.size
  block : ∀ k, k < w.heap.size → (k < B ∨ H ≤ k) → w'.heap[k]? = w.heap[k]?
theorem Keep.of_grown {B H : Nat} {w w' : World} {row : Option Nat} (h : w.grownBy w' row) (hr : ∀ k, row = some k → B ≤ k ∧ k < H) : Keep B H w w' :=
  ⟨h.os, h.tape, h.output, h.size, fun k hk hor => h.block k hk (fun e => by have := hr k e.symm; omega)⟩
theorem Keep.of_below {B H : Nat} {w w' : World} (h : Below w.heap.size w w') : Keep B H w w' := ⟨h.os, h.tape, h.output, h.size, fun k hk _ => h.block k hk⟩
theorem Keep.trans {B H : Nat} {a b c : World} (h : Keep B H a b) (k : Keep B H b c) : Keep B H a c :=
  ⟨k.os.trans h.os, k.tape.trans h.tape, k.output.trans h.output, Nat.le_trans h.size k.size, fun i hi ho => (k.block i (Nat.lt_of_lt_of_le hi h.size) ho).trans (h.block i hi ho)⟩
theorem Keep.mono {B H B' H' : Nat} {a b : World} (h : Keep B H a b) (h1 : B' ≤ B) (h2 : H ≤ H') : Keep B' H' a b :=
  ⟨h.os, h.tape, h.output, h.size, fun i hi ho => h.block i hi (by omega)⟩
theorem below_keep {b0 B H : Nat} {W w w' : World} (h : Below b0 W w) (k : Keep B H w w') (h1 : b0 ≤ B) (h2 : b0 ≤ w.heap.size) : Below b0 W w' :=
  ⟨k.os.trans h.os, k.tape.trans h.tape, k.output.trans h.output, Nat.le_trans h.size k.size, fun i hi => (k.block i (by omega) (by omega)).trans (h.block i hi)⟩
theorem Bk.keep {w w' : World} {g B H : Nat} {cs : Array Value} (h : Bk w g cs) (k : Keep B H w w') (hg : g < B ∨ H ≤ g) : Bk w' g cs :=
  ⟨Nat.lt_of_lt_of_le h.1 k.size, fun i => (World.cell?_of_block (k.block g h.1 hg)).trans (h.2 i)⟩

/-- a slice of the call's own, its block from B on and below H -/
def Ob {α : Type} (K : Cod α) (e : TypeId) (B H : Nat) (w : World) (v : Value) (xs : List α) : Prop := Ow K e B w v xs ∧ ∀ k, v.ownBlock = some k → k < H
section
variable {α : Type} {K : Cod α} {e : TypeId} {B H : Nat} {w w' : World} {v : Value} {xs : List α}
theorem Ow.ob (h : Ow K e B w v xs) : Ob K e B w.heap.size w v xs := ⟨h, fun k hk => (h.block k hk).2⟩
theorem Ob.sl (h : Ob K e B H w v xs) : Sl K w v xs := h.1.sl
theorem Ob.opn (h : Ob K e B H w v xs) : ∃ A c, v = .slice A xs.length c := h.1.opn
theorem Ob.below (h : Ob K e B H w v xs) (hb : Below w.heap.size w w') : Ob K e B H w' v xs := ⟨h.1.below hb, h.2⟩
theorem Ob.keep {B' H' : Nat} (h : Ob K e B H w v xs) (k : Keep B' H' w w') (hd : H ≤ B' ∨ H' ≤ B) : Ob K e B H w' v xs := by
  refine ⟨⟨h.1.1, h.1.2.1, ?_⟩, h.2⟩
  rcases h.1.2.2 with h2 | ⟨g, cap, cur, hv, hB, hg, r⟩
  · exact .inl h2
  · refine .inr ⟨g, cap, cur, hv, hB, ?_, r⟩
    have hH := h.2 g (by rw [hv]; rfl)
    exact (k.block g (Array.getElem?_eq_some_iff.1 hg).1 (by omega)).trans hg
theorem Ob.inv {ys : List α} (h : Ob K e B H w v xs) (h' : Ow K e B w' v ys) : Ob K e B H w' v ys := ⟨h', h.2⟩
end
theorem below_alloc' (w : World) (o : Obj) : Below w.heap.size w (w.alloc o) := (Below.refl _ _).alloc (Nat.le_refl _) o
theorem size_alloc' (w : World) (o : Obj) : (w.alloc o).heap.size = w.heap.size + 1 := by simp
/- Contracts of the laws' own functions on []Node: size, copy, comparison of alike ones, marks. -/
theorem ty_node : Ty Tryz.prog 44 75 (.agg #[.int .i64 0, .int .i64 0]) 2 16 := Ty.mk' Tryz.underlying44 (by kernel_rfl) rfl (by decide)
theorem sz_nodeS (v : Value) (xs : List Nd) (l : Int) (w : World) (h : Sl cN w v xs) (hl : -1 ≤ l ∧ l ≤ 1048576) :
    Calls Tryz.prog 15 #[v, .int .i64 l] w fun e w' => e = .returned (.int .i64 (szL l xs.length)) ∧ w = w' := by
  obtain ⟨A, c, rfl, hc, hm, hr⟩ := h
  by_cases hn : l - xs.length < 0
  · go_enter Tryz.func15, Tryz.ntmps15
    go_wp2
    go_ret
    exact ⟨by rw [szL_neg hn]; rfl, rfl⟩
  · go_enter Tryz.func15, Tryz.ntmps15
    go_wp2
    go_ret
    exact ⟨by rw [szL_pos (by omega)]; rfl, rfl⟩
theorem to_node (a b : Int) (w : World) :
    Calls Tryz.prog 39 #[.agg #[.int .i64 a, .int .i64 b]] w fun e w' => e = .returned (.agg #[.int .i64 a, .int .i64 b]) ∧ Below w.heap.size w w' := by
  go_enter Tryz.func39, Tryz.ntmps39
  go_wp2
  refine bodyPost_ret (v := .agg #[.int .i64 a, .int .i64 b]) (by simp [results, Tryz.results39, go_sem]) rfl ⟨rfl, ?_⟩
  repeat (first | exact Below.refl _ _ | refine Below.alloc ?_ (by simp <;> omega) _ | refine Below.setCell ?_ (by simp <;> omega) _ | refine below_drewN ?_ _)
theorem to_nodeS (v : Value) (xs : List Nd) (w : World) (h : Sl cN w v xs) (hl : xs.length ≤ 1048576) :
    Calls Tryz.prog 19 #[v] w fun e w' => ∃ u, e = .returned u ∧ Ow cN 75 w.heap.size w' u xs ∧ Below w.heap.size w w' := by
  obtain ⟨A, c, rfl⟩ := h.opn
  go_enter Tryz.func19, Tryz.ntmps19
  go_wp2_with (at_make; go_must (refine mk_full (K := cN) w ty_node rfl _ _ rfl w.heap.size xs.length (0, 0) rfl rfl rfl (by omega) (Nat.le_refl _) ?_; intro w1 ho1 hg1 hb1 hsz1))
  go_loopw [4] (fun i wr => ∃ k : Nat, k ≤ xs.length ∧ i = .int .i64 k ∧ Ow cN 75 w.heap.size wr (.slice (some ⟨w.heap.size, 0, none⟩) xs.length xs.length) (xs.take k ++ List.replicate (xs.length - k) (0, 0)) ∧ Below w.heap.size w wr) (fun i _ => xs.length - (intOf i).toNat)
  case atStart => exact ⟨0, Nat.zero_le _, rfl, by simpa using ho1, hb1⟩
  case round =>
    obtain ⟨k, hk, rfl, ho, hb⟩ := hrel
    by_cases hlt : k < xs.length
    · obtain ⟨b, o, rfl, hbl, hc0, hc1⟩ := (h.below hb).atN hlt
      go_wp2_with fail
      refine (to_node _ _ _).mono ?_
      rintro e w2 ⟨rfl, hb2⟩
      have ho2 := ho.below hb2
      have hb3 := hb.trans (hb2.mono hb.size)
      obtain ⟨hd0, hd1, hf0, hf1, hB1, hg1'⟩ := ho2.at2 (j := k) (by simp; omega)
      obtain ⟨u0, hd0⟩ : ∃ u0, w2.cell? ⟨w.heap.size, k * 2, none⟩ = some u0 := ⟨_, hd0⟩
      obtain ⟨u1, hd1⟩ : ∃ u1, w2.cell? ⟨w.heap.size, k * 2 + 1, none⟩ = some u1 := ⟨_, hd1⟩
      have hset := ho2.set2 (j := k) (a := xs[k].1) (b := xs[k].2) (by simp; omega)
      rw [show (xs[k].1, xs[k].2) = xs[k] from rfl, set_take_replicate xs (0, 0) k hlt] at hset
      have H := Lib.hid hset
      have HB := Lib.hid hb3
      clear ho ho2 hset hb hb2 hb3 hc0 hc1
      go_wp2
      go_roundw
      case rel => exact ⟨k + 1, by omega, by go_num, H.out, (HB.out.setCell (Nat.le_refl _) _).setCell (Nat.le_refl _) _⟩
      case measure => simp [intOf]; omega
    · obtain rfl : k = xs.length := by omega
      have ho' : Ow cN 75 w.heap.size wr (.slice (some ⟨w.heap.size, 0, none⟩) xs.length xs.length) xs := by simpa using ho
      clear ho
      go_wp2
      go_ret
      exact ⟨_, rfl, ho', hb⟩
theorem eq_node (a b : Int) (w : World) :
    Calls Tryz.prog 54 #[.agg #[.int .i64 a, .int .i64 b], .agg #[.int .i64 a, .int .i64 b]] w fun e w' => e = .returned (.bool true) ∧ Below w.heap.size w w' := by
  go_enter Tryz.func54, Tryz.ntmps54
  go_wp2
  go_ret
  exact ⟨rfl, by repeat (first | exact Below.refl _ _ | refine Below.alloc ?_ (by simp <;> omega) _ | refine below_drewN ?_ _)⟩
set_option maxRecDepth 100000 in
theorem eq_nodeS (v u : Value) (xs : List Nd) (w : World) (hx : Sl cN w v xs) (hy : Sl cN w u xs) (hn : xs.length ≤ 1073741824) :
    Calls Tryz.prog 27 #[v, u] w fun e w' => e = .returned (.bool true) ∧ Below w.heap.size w w' := by
  obtain ⟨A, c, rfl⟩ := hx.opn
  obtain ⟨B, d, rfl⟩ := hy.opn
  go_enter Tryz.func27, Tryz.ntmps27
  go_wp2
  go_loopw [5] (fun i wr => ∃ j : Nat, j ≤ xs.length ∧ i = .int .i64 j ∧ Below w.heap.size w wr) (fun i _ => xs.length - (intOf i).toNat)
  case atStart => exact ⟨0, Nat.zero_le _, rfl, Below.refl _ _⟩
  case round =>
    obtain ⟨j, hj, rfl, hb⟩ := hrel
    by_cases hlt : j < xs.length
    · obtain ⟨b, o, rfl, hbl, hc0, hc1⟩ := (hx.below hb).atN hlt
      obtain ⟨b', o', rfl, hbl', hc0', hc1'⟩ := (hy.below hb).atN hlt
      go_wp2
      go_still_tail 8, (by kernel_rfl)
      change wpList _ _ _ _ _ wr.drew
      have HB := Lib.hid hb.drew
      clear hb hc0 hc1 hc0' hc1' hbl hbl' hx hy
      generalize wr.drew = w2 at *
      go_wp2_with fail
      refine (eq_node _ _ _).mono ?_
      rintro e w3 ⟨rfl, hb3⟩
      have HB3 := Lib.hid (HB.out.trans (hb3.mono HB.out.size))
      clear hb3
      go_wp2
      go_roundw
      case rel => exact ⟨j + 1, by omega, by go_num, HB3.out⟩
      case measure => simp [intOf]; omega
    · go_wp2
      go_ret
      exact ⟨rfl, hb⟩
theorem set_numN (xs : List Nd) (k : Int) (j : Nat) (h : j < xs.length) (N : List Nd) (hN : N.length = j) (a b : Int) : (N ++ xs.drop j).set j (a, b) = (N ++ [(a, b)]) ++ xs.drop (j + 1) := by
  rw [List.set_append, if_neg (by omega), hN, Nat.sub_self, List.drop_eq_getElem_cons h, List.set_cons_zero, List.append_assoc]
  rfl
/-- the marks of nodes: k, k + 1; k + 2, k + 3 .. -/
def numN : Nat → Int → List Nd
  | 0, _ => []
  | n + 1, k => (k, k + 1) :: numN n (k + 2)
theorem numN_length (n : Nat) (k : Int) : (numN n k).length = n := by
  induction n generalizing k with
  | zero => rfl
  | succ n ih => simp [numN, ih]
theorem numN_snoc (n : Nat) (k : Int) : numN (n + 1) k = numN n k ++ [(k + 2 * n, k + 2 * n + 1)] := by
  induction n generalizing k with
  | zero => simp [numN]
  | succ n ih =>
    rw [numN, ih (k + 2), numN, List.cons_append]
    simp
    omega
theorem numN_get (n : Nat) (k : Int) (j : Nat) (h : j < (numN n k).length) : (numN n k)[j] = (k + 2 * j, k + 2 * j + 1) := by
  induction n generalizing k j with
  | zero => simp [numN] at h
  | succ n ih =>
    cases j with
    | zero => simp [numN]
    | succ j =>
      simp only [numN, List.getElem_cons_succ]
      rw [ih]
      simp
      omega
theorem mark_nodeS (v : Value) (xs : List Nd) (k : Int) (B : Nat) (w : World) (h : Ow cN 75 B w v xs) (hl : xs.length ≤ 268435456) (hk : 0 ≤ k ∧ k ≤ 1073741824) :
    Calls Tryz.prog 28 #[v, .int .i64 k] w fun e w' => e = .returned (.int .i64 (k + 2 * xs.length)) ∧ Ow cN 75 B w' v (numN xs.length k) ∧ w.grownBy w' v.ownBlock := by
  obtain ⟨A, c, rfl⟩ := h.opn
  have ho1 : Ow cN 75 B w (.slice A xs.length c) xs := h
  clear h
  go_enter Tryz.func28, Tryz.ntmps28
  go_wp2
  go_loopw [1, 5] (fun q i wr => ∃ j : Nat, j ≤ xs.length ∧ i = .int .i64 j ∧ q = .int .i64 (k + 2 * j) ∧ Ow cN 75 B wr (.slice A xs.length c) (numN j k ++ xs.drop j) ∧ w.grownBy wr (Value.ownBlock (.slice A xs.length c))) (fun _ i _ => xs.length - (intOf i).toNat)
  case atStart => exact ⟨0, Nat.zero_le _, rfl, by simp, by simpa [numN] using ho1, World.grownBy.refl _ _⟩
  case round =>
    obtain ⟨j, hj, rfl, rfl, ho, hg⟩ := hrel
    by_cases hlt : j < xs.length
    · obtain ⟨g, rfl, -, -⟩ := ho.head (by simp [numN_length]; omega)
      obtain ⟨hd0, hd1, hf0, hf1, hB1, hg1'⟩ := ho.at2 (j := j) (by simp [numN_length]; omega)
      obtain ⟨u0, hd0⟩ : ∃ u0, wr.cell? ⟨g, j * 2, none⟩ = some u0 := ⟨_, hd0⟩
      obtain ⟨u1, hd1⟩ : ∃ u1, wr.cell? ⟨g, j * 2 + 1, none⟩ = some u1 := ⟨_, hd1⟩
      have hset := ho.set2 (j := j) (a := k + 2 * j) (b := k + 2 * j + 1) (by simp [numN_length]; omega)
      rw [set_numN xs k j hlt _ (numN_length _ _), ← numN_snoc] at hset
      have H := Lib.hid hset
      have G := Lib.hid hg
      clear ho hset hg ho1
      go_wp2
      go_roundw
      case rel =>
        exact ⟨j + 1, by omega, by go_num, by go_num, H.out, grown_set (grown_set G.out rfl _ _) rfl _ _⟩
      case measure => simp [intOf]; omega
    · obtain rfl : j = xs.length := by omega
      have ho2 : Ow cN 75 B wr (.slice A xs.length c) (numN xs.length k) := by simpa using ho
      clear ho
      go_wp2
      go_ret
      exact ⟨rfl, ho2, hg⟩
theorem held_nodeS (v : Value) (m : Nat) (k : Int) (w : World) (h : Sl cN w v (numN m k)) (hl : m ≤ 268435456) (hk : 0 ≤ k ∧ k ≤ 1073741824) :
    Calls Tryz.prog 29 #[v, .int .i64 k] w fun e w' => e = .returned (.int .i64 (k + 2 * m)) ∧ w = w' := by
  obtain ⟨A, c, rfl⟩ := h.opn
  rw [numN_length] at h ⊢
  go_enter Tryz.func29, Tryz.ntmps29
  go_wp2
  go_loop [1, 5] (fun q i => ∃ j : Nat, j ≤ m ∧ i = .int .i64 j ∧ q = .int .i64 (k + 2 * j)) (fun _ i => m - (intOf i).toNat)
  case atStart => exact ⟨0, Nat.zero_le _, rfl, by simp⟩
  case round =>
    obtain ⟨j, hj, rfl, rfl⟩ := hrel
    by_cases hlt : j < m
    · obtain ⟨b, o, rfl, hb, hc0, hc1⟩ := h.atN (k := j) (by rw [numN_length]; exact hlt)
      rw [numN_get] at hc0 hc1
      dsimp only at hc0 hc1
      clear h
      go_wp2
      go_round
      case rel => exact ⟨j + 1, by omega, by go_num, by go_num⟩
      case measure => simp [intOf]; omega
    · obtain rfl : j = m := by omega
      go_wp2
      go_ret
      exact ⟨rfl, rfl⟩
/- The laws' own functions on slices in the one form. -/
theorem u_sz_SN (v : Value) (xs : List Nd) (l : Int) (w : World) (h : Sl cN w v xs) (hl : -1 ≤ l ∧ l ≤ 1048576) :
    Calls Tryz.prog 15 #[v, .int .i64 l] w fun e w' => e = .returned (.int .i64 (szL l xs.length)) ∧ Below w.heap.size w w' :=
  (sz_nodeS v xs l w h hl).mono fun e w' ⟨he, hw⟩ => ⟨he, hw ▸ Below.refl _ _⟩
theorem u_to_SN (v : Value) (xs : List Nd) (w : World) (h : Sl cN w v xs) (hl : xs.length ≤ 1048576) :
    Calls Tryz.prog 19 #[v] w fun e w' => ∃ u, e = .returned u ∧ Ob cN 75 w.heap.size w'.heap.size w' u xs ∧ Below w.heap.size w w' :=
  (to_nodeS v xs w h hl).mono fun e w' ⟨u, he, ho, hb⟩ => ⟨u, he, ho.ob, hb⟩
theorem u_eq_SN (v u : Value) (xs : List Nd) (w : World) (hx : Sl cN w v xs) (hy : Sl cN w u xs) (hn : xs.length ≤ 268435456) :
    Calls Tryz.prog 27 #[v, u] w fun e w' => e = .returned (.bool true) ∧ Below w.heap.size w w' := eq_nodeS v u xs w hx hy (by omega)
theorem u_mark_SN (v : Value) (xs : List Nd) (k : Int) (B H : Nat) (w : World) (h : Ob cN 75 B H w v xs) (hl : xs.length ≤ 268435456) (hk : 0 ≤ k ∧ k ≤ 268435456) :
    Calls Tryz.prog 28 #[v, .int .i64 k] w fun e w' => e = .returned (.int .i64 (k + 2 * xs.length)) ∧ Ob cN 75 B H w' v (numN xs.length k) ∧ Keep B H w w' :=
  (mark_nodeS v xs k B w h.1 (by omega) (by omega)).mono fun e w' ⟨he, ho, hg⟩ => ⟨he, h.inv ho, Keep.of_grown hg fun g hk => ⟨(h.1.block g hk).1, h.2 g hk⟩⟩
theorem u_held_SN (v : Value) (m : Nat) (k : Int) (w : World) (h : Sl cN w v (numN m k)) (hl : m ≤ 268435456) (hk : 0 ≤ k ∧ k ≤ 268435456) :
    Calls Tryz.prog 29 #[v, .int .i64 k] w fun e w' => e = .returned (.int .i64 (k + 2 * m)) ∧ Below w.heap.size w w' :=
  (held_nodeS v m k w h hl (by omega)).mono fun e w' ⟨he, hw⟩ => ⟨he, hw ▸ Below.refl _ _⟩
/- The laws' own functions on Frames in the one form. -/
/- The laws' own functions on Models in the one form: size, equality. -/
end Go.Proofs.YtcikenffeekkeaaGreatDoor

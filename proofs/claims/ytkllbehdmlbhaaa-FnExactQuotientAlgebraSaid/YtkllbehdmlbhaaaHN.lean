/- Joined of several texts: 18N, 18P, 18V. -/
import Derived.Test.YtkllbehdmlbhaaaOA
import Derived.Test.YtkllbehdmlbhaaaB2
import Derived.StillTailTactics
namespace Go.Proofs.Ytkllbehdmlbhaaa
open Go.RowKit
set_option linter.unusedVariables false
set_option linter.unusedSimpArgs false
/- The laws' own functions on lists of lists of int64 in the one form, and such an argument opened. Written by gen18N.py. -/
/-- the lengths of lists, summed -/
def sumLI : List (List Int) → Nat
  | [] => 0
  | x :: xs => x.length + sumLI xs
theorem sumLI_snoc (xs : List (List Int)) (x : List Int) : sumLI (xs ++ [x]) = sumLI xs + x.length := by
  induction xs with
  | nil => simp [sumLI]
  | cons y ys ih => simp only [List.cons_append, sumLI, ih]; omega
theorem sumLI_succ (xs : List (List Int)) (k : Nat) (h : k < xs.length) : sumLI (xs.take (k + 1)) = sumLI (xs.take k) + (xs[k]'h).length := by
  rw [List.take_succ_eq_append_getElem h, sumLI_snoc]
theorem sumLI_take (xs : List (List Int)) (k : Nat) : sumLI (xs.take k) ≤ sumLI xs := by
  induction xs generalizing k with
  | nil => simp
  | cons y ys ih =>
    cases k with
    | zero => simp [sumLI]
    | succ k => simp only [List.take_succ_cons, sumLI]; have := ih k; omega
theorem sumLI_get (xs : List (List Int)) (k : Nat) (h : k < xs.length) : (xs[k]'h).length ≤ sumLI xs := by
  have h1 := sumLI_succ xs k h
  have h2 := sumLI_take xs (k + 1)
  omega
/-- what a list of lists counts -/
def totI (xs : List (List Int)) : Nat := xs.length + sumLI xs
theorem sumLI_tot (xs : List (List Int)) : sumLI xs ≤ totI xs := by unfold totI; omega
theorem Sl2.atMI {w : World} {A : Option Addr} {n c : Nat} {xss : List (List Int)} (h : Sl2 cI w (.slice A n c) xss) {k : Nat} (hk : k < xss.length) :
    ∃ b o Ai ci, A = some ⟨b, o, none⟩ ∧ b < w.heap.size ∧ w.cell? ⟨b, o + k, none⟩ = some (.slice Ai (xss[k]'hk).length ci) ∧ Sl cI w (.slice Ai (xss[k]'hk).length ci) (xss[k]'hk) := by
  obtain ⟨b, o, Ai, ni, ci, hA, hb, hc, hs⟩ := h.at_ hk
  obtain ⟨A', c', hv⟩ := hs.opn
  injection hv with _ hn _
  subst hn
  exact ⟨b, o, Ai, ci, hA, hb, hc, hs⟩
theorem u_sz_SSI (v : Value) (xss : List (List Int)) (l : Int) (w : World) (h : Sl2 cI w v xss) (hl : -1 ≤ l ∧ l ≤ 1048576) :
    Calls Try.prog 17 #[v, .int .i64 l] w fun e w' => e = .returned (.int .i64 (szL l (totI xss))) ∧ Below w.heap.size w w' := by
  have hlen : xss.length ≤ 9223372036854775807 := by
    obtain ⟨hs, ⟨A', c', h1, h2, h3, -⟩, h4, -⟩ := h
    omega
  obtain ⟨A, c, rfl⟩ := h.opn
  by_cases hn : l - xss.length < 0
  · have hz : szL l (totI xss) = -1 := szL_neg (by unfold totI; omega)
    rw [hz]
    clear hz h
    go_enter Try.func17, Try.ntmps17
    go_wp2
    go_ret
    exact ⟨rfl, Below.refl _ _⟩
  · have H := Lib.hid h
    have hT : totI xss = xss.length + sumLI xss := rfl
    have HT := Lib.hid hT
    have hln : xss.length ≤ 1048576 := by omega
    have hn' : decide (l - (xss.length : Int) < 0) = false := decide_eq_false hn
    have e2 : 0 ≤ l - xss.length - sumLI xss → szL l (totI xss) = l - xss.length - sumLI xss := fun hh => by rw [szL_pos (show ¬ l - ((totI xss : Nat) : Int) < 0 by rw [hT]; omega), hT]; omega
    have E2 := Lib.hid e2
    clear h hT e2
    go_enter Try.func17, Try.ntmps17
    go_wp2
    go_loop [1, 5] (fun q i => ∃ j : Nat, j ≤ xss.length ∧ i = .int .i64 j ∧ q = .int .i64 (l - xss.length - sumLI (xss.take j)) ∧ 0 ≤ l - xss.length - sumLI (xss.take j)) (fun _ i => xss.length - (intOf i).toNat)
    case atStart => exact ⟨0, Nat.zero_le _, rfl, by simp [sumLI], by simp [sumLI]; omega⟩
    case round =>
      obtain ⟨j, hj, rfl, rfl, hge⟩ := hrel
      by_cases hlt : j < xss.length
      · obtain ⟨b, o, Ai, ci, rfl, hb, hc, hs⟩ := H.out.atMI hlt
        have hsu := sumLI_succ xss j hlt
        have hsl := sumLI_take xss (j + 1)
        obtain ⟨y, hy⟩ : ∃ y : Nat, sumLI (xss.take j) = y := ⟨_, rfl⟩
        obtain ⟨m, hm⟩ : ∃ m : Nat, (xss[j]'hlt).length = m := ⟨_, rfl⟩
        have hcon := Lib.hid (sz_int64S _ _ (l - xss.length - (y : Int)) w hs (by omega))
        rw [hm] at hc hcon
        rw [hy] at hge ⊢
        have HS : Hid (sumLI (xss.take (j + 1)) = y + m) := Lib.hid (by rw [hsu, hy, hm])
        have HL : Hid (y + m ≤ sumLI xss) := Lib.hid (by rw [← hy, ← hm, ← hsu]; exact hsl)
        clear hsu hsl hy hs
        by_cases hq : l - xss.length - (y : Int) - m < 0
        · have hz : szL (l - xss.length - (y : Int)) m = -1 := szL_neg hq
          rw [hz] at hcon
          go_wp2_with fail
          refine hcon.out.mono ?_
          rintro e w1 ⟨rfl, rfl⟩
          go_wp2
          go_ret
          have e3 : szL l (totI xss) = -1 := szL_neg (by rw [HT.out]; have := HL.out; omega)
          exact ⟨by rw [e3]; rfl, Below.refl _ _⟩
        · have hz : szL (l - xss.length - (y : Int)) m = l - xss.length - (y : Int) - m := szL_pos hq
          rw [hz] at hcon
          have hq' : decide (l - (xss.length : Int) - (y : Int) - (m : Int) < 0) = false := decide_eq_false hq
          go_wp2_with fail
          refine hcon.out.mono ?_
          rintro e w1 ⟨rfl, rfl⟩
          go_wp2
          go_round
          case rel => exact ⟨j + 1, by omega, by go_num, by rw [HS.out]; go_num, by rw [HS.out]; omega⟩
          case measure => simp [intOf]; omega
      · obtain rfl : j = xss.length := by omega
        have e1 : xss.take xss.length = xss := List.take_length
        rw [e1] at hge ⊢
        clear e1
        go_wp2
        go_ret
        exact ⟨by rw [E2.out hge]; rfl, Below.refl _ _⟩
theorem ty_intssL : Ty Try.prog 22 26 (.slice none 0 0) 1 24 := Ty.mk' Try.underlying22 (by kernel_rfl) rfl (by decide)
/-- lists of nodes of the call's own, made one behind the other: their headers from B on, each list below H -/
def ObT (B H : Nat) (w : World) (v : Value) (xss : List (List Int)) : Prop :=
  ∃ (hs : List Hd) (b : Nat → Nat), Ob cH 26 B (b 0) w v hs ∧ hs.length = xss.length ∧ B ≤ b 0 ∧ (∀ i, b i ≤ b (i + 1)) ∧ (∀ i, b i ≤ H) ∧
    ∀ i (p : i < hs.length) (q : i < xss.length), Ob cI 2 (b i) (b (i + 1)) w hs[i].val xss[i]
section
variable {B H : Nat} {w w' : World} {v : Value} {xss : List (List Int)}
theorem ObT.sl (h : ObT B H w v xss) : Sl2 cI w v xss := by
  obtain ⟨hs, b, h1, h2, -, -, -, h3⟩ := h
  exact ⟨hs, h1.sl, h2, fun i p q => (h3 i p q).sl⟩
theorem ObT.opn (h : ObT B H w v xss) : ∃ A c, v = .slice A xss.length c := h.sl.opn
theorem mono_ofI {b : Nat → Nat} (h : ∀ i, b i ≤ b (i + 1)) {i j : Nat} (hij : i ≤ j) : b i ≤ b j := by
  induction hij with
  | refl => exact Nat.le_refl _
  | step _ ih => exact Nat.le_trans ih (h _)
theorem ObT.below (h : ObT B H w v xss) (hb : Below w.heap.size w w') : ObT B H w' v xss := by
  obtain ⟨hs, b, h1, h2, h3, h4, h5, h6⟩ := h
  exact ⟨hs, b, h1.below hb, h2, h3, h4, h5, fun i p q => (h6 i p q).below hb⟩
theorem ObT.keep {B' H' : Nat} (h : ObT B H w v xss) (k : Keep B' H' w w') (hd : H ≤ B' ∨ H' ≤ B) : ObT B H w' v xss := by
  obtain ⟨hs, b, h1, h2, h3, h4, h5, h6⟩ := h
  have e0 := h5 0
  refine ⟨hs, b, h1.keep k (by omega), h2, h3, h4, h5, fun i p q => (h6 i p q).keep k ?_⟩
  have e1 := h5 (i + 1)
  have e2 := mono_ofI h4 (Nat.zero_le i)
  omega
end
set_option maxRecDepth 100000 in
theorem u_eq_SSI (v u : Value) (xss : List (List Int)) (w : World) (hx : Sl2 cI w v xss) (hy : Sl2 cI w u xss) (hn : totI xss ≤ 268435456) :
    Calls Try.prog 23 #[v, u] w fun e w' => e = .returned (.bool true) ∧ Below w.heap.size w w' := by
  obtain ⟨A, c, rfl⟩ := hx.opn
  obtain ⟨B, d, rfl⟩ := hy.opn
  have hT : totI xss = xss.length + sumLI xss := rfl
  have hln : xss.length ≤ 268435456 := by omega
  have HG := Lib.hid (fun j (h : j < xss.length) => sumLI_get xss j h)
  have HT : Hid (sumLI xss ≤ 268435456) := Lib.hid (by omega)
  clear hT hn
  go_enter Try.func23, Try.ntmps23
  go_wp2
  go_loopw [5] (fun i wr => ∃ j : Nat, j ≤ xss.length ∧ i = .int .i64 j ∧ Below w.heap.size w wr) (fun i _ => xss.length - (intOf i).toNat)
  case atStart => exact ⟨0, Nat.zero_le _, rfl, Below.refl _ _⟩
  case round =>
    obtain ⟨j, hj, rfl, hb⟩ := hrel
    by_cases hlt : j < xss.length
    · obtain ⟨b, o, Ai, ci, rfl, hbl, hc0, hs⟩ := (hx.below hb).atMI hlt
      obtain ⟨b', o', Ai', ci', rfl, hbl', hc0', hs'⟩ := (hy.below hb).atMI hlt
      have HB := Lib.hid hb
      have HC := Lib.hid (fun X (hX : Below wr.heap.size wr X) => u_eq_SI _ _ _ X (hs.below hX) (hs'.below hX) (by have := HG.out j hlt; have := HT.out; omega))
      obtain ⟨m, hm⟩ : ∃ m : Nat, (xss[j]'hlt).length = m := ⟨_, rfl⟩
      rw [hm] at hc0 hc0' HC
      clear hb hs hs' hm
      go_wp2
      go_still_tail 8, (by kernel_rfl)
      change wpList _ _ _ _ _ wr.drew
      have HD : Hid (Below wr.heap.size wr wr.drew) := Lib.hid (Below.refl _ _).drew
      clear hc0 hc0'
      generalize wr.drew = w2 at *
      go_wp2_with fail
      refine (HC.out _ HD.out).mono ?_
      rintro e w3 ⟨rfl, hb3⟩
      have HB3 := Lib.hid (bthen HB.out (bthen HD.out hb3))
      clear hb3
      go_wp2
      go_roundw
      case rel => exact ⟨j + 1, by omega, by go_num, HB3.out⟩
      case measure => simp [intOf]; omega
    · go_wp2
      go_ret
      exact ⟨rfl, hb⟩
theorem hsetI (hs : List Hd) (n k : Nat) (z x : Hd) (hk : k < n) (hl : hs.length = k) : (hs ++ List.replicate (n - k) z).set k x = (hs ++ [x]) ++ List.replicate (n - (k + 1)) z := by
  rw [List.set_append, if_neg (by omega), hl, Nat.sub_self]
  obtain ⟨m, hm⟩ : ∃ m, n - k = m + 1 := ⟨n - k - 1, by omega⟩
  rw [hm, List.replicate_succ, List.set_cons_zero, show n - (k + 1) = m by omega, List.append_assoc]
  rfl
/-- k lists have been copied -/
structure TNI (g : Nat) (xss : List (List Int)) (k : Nat) (w X : World) (hs : List Hd) (b : Nat → Nat) : Prop where
  len : hs.length = k
  row : Ow cH 26 g X (.slice (some ⟨g, 0, none⟩) xss.length xss.length) (hs ++ List.replicate (xss.length - k) ⟨none, 0, 0⟩)
  b0 : g + 1 ≤ b 0
  mono : ∀ i, b i ≤ b (i + 1)
  top : ∀ i, b i ≤ X.heap.size
  ob : ∀ i (p : i < hs.length) (q : i < xss.length), Ob cI 2 (b i) (b (i + 1)) X hs[i].val xss[i]
  be : Below g w X
theorem TNI.step {g k : Nat} {xss : List (List Int)} {w X Y : World} {hs : List Hd} {b : Nat → Nat} (h : TNI g xss k w X hs b) (hk : k < xss.length) {A : Option Addr} {c : Nat} (ho : Ob cI 2 X.heap.size Y.heap.size Y (.slice A (xss[k]'hk).length c) (xss[k]'hk)) (hb : Below X.heap.size X Y) (hg : g ≤ X.heap.size) :
    ∃ hs' b', TNI g xss (k + 1) w (Y.setCell ⟨g, k, none⟩ (.slice A (xss[k]'hk).length c)) hs' b' := by
  have hrow := h.row.below hb
  have hset1 := hrow.set1 (j := k) (x := (⟨A, (xss[k]'hk).length, c⟩ : Hd)) (u := .slice A (xss[k]'hk).length c) rfl rfl (by simp [h.len]; omega)
  rw [hsetI hs xss.length k _ _ hk h.len] at hset1
  have hfar : ∀ {B' H' : Nat} {v : Value} {xs : List Int}, g + 1 ≤ B' → Ob cI 2 B' H' Y v xs → Ob cI 2 B' H' (Y.setCell ⟨g, k, none⟩ (.slice A (xss[k]'hk).length c)) v xs := fun {B' H' v xs} hB' hv =>
    ⟨hv.1.far (fun e => by have h9 : B' ≤ g := (hv.1.block _ e).1; omega) _, hv.2⟩
  refine ⟨hs ++ [⟨A, (xss[k]'hk).length, c⟩], fun i => if i ≤ k then b i else Y.heap.size, by simp [h.len], hset1, by simpa using h.b0, fun i => ?_, fun i => ?_, fun i p q => ?_, (h.be.trans (hb.mono hg)).setCell (Nat.le_refl _) _⟩
  · have h1 := h.top i
    have h2 := hb.size
    by_cases hi : i + 1 ≤ k
    · rw [if_pos (show i ≤ k by omega), if_pos hi]; exact h.mono i
    · rw [if_neg hi]
      split
      · omega
      · exact Nat.le_refl _
  · have h1 := h.top i
    have h2 := hb.size
    have h3 : (Y.setCell ⟨g, k, none⟩ (.slice A (xss[k]'hk).length c)).heap.size = Y.heap.size := by simp [World.setCell]
    rw [h3]
    show (if i ≤ k then b i else Y.heap.size) ≤ Y.heap.size
    split <;> omega
  · have hb0 := h.b0
    by_cases hi : i < hs.length
    · have := h.len
      rw [List.getElem_append_left hi]
      show Ob _ _ (if i ≤ k then b i else Y.heap.size) (if i + 1 ≤ k then b (i + 1) else Y.heap.size) _ _ _
      rw [if_pos (show i ≤ k by omega), if_pos (show i + 1 ≤ k by omega)]
      have hm := mono_ofI h.mono (Nat.zero_le i)
      exact hfar (by omega) ((h.ob i hi q).below hb)
    · have hl := h.len
      have e : i = hs.length := by simp at p; omega
      have e' : i = k := by omega
      subst e'
      have e2 : (hs ++ [(⟨A, (xss[i]'hk).length, c⟩ : Hd)])[i] = ⟨A, (xss[i]'hk).length, c⟩ := by simp [e]
      rw [e2]
      show Ob _ _ (if i ≤ i then b i else Y.heap.size) (if i + 1 ≤ i then b (i + 1) else Y.heap.size) _ _ _
      rw [if_pos (Nat.le_refl _), if_neg (show ¬ i + 1 ≤ i by omega)]
      have hm := mono_ofI h.mono (Nat.zero_le i)
      exact hfar (by omega) ⟨ho.1.mono (h.top i), ho.2⟩
theorem TNI.fin {g : Nat} {xss : List (List Int)} {w X : World} {hs : List Hd} {b : Nat → Nat} (h : TNI g xss xss.length w X hs b) : ObT g X.heap.size X (.slice (some ⟨g, 0, none⟩) xss.length xss.length) xss := by
  have hr := h.row
  rw [Nat.sub_self, List.replicate_zero, List.append_nil] at hr
  refine ⟨hs, b, ⟨hr, fun k hk => ?_⟩, h.len, by have := h.b0; omega, h.mono, h.top, h.ob⟩
  have hk' : g = k := by injection hk
  have := h.b0
  omega
theorem u_to_SSI (v : Value) (xss : List (List Int)) (w : World) (h : Sl2 cI w v xss) (hl : totI xss ≤ 1048576) :
    Calls Try.prog 20 #[v] w fun e w' => ∃ u, e = .returned u ∧ ObT w.heap.size w'.heap.size w' u xss ∧ Below w.heap.size w w' := by
  obtain ⟨A, c, rfl⟩ := h.opn
  have hT : totI xss = xss.length + sumLI xss := rfl
  have hln : xss.length ≤ 1048576 := by omega
  have HG := Lib.hid (fun j (h : j < xss.length) => sumLI_get xss j h)
  have HT : Hid (sumLI xss ≤ 1048576) := Lib.hid (by omega)
  have HH := Lib.hid h
  clear hT hl h
  go_enter Try.func20, Try.ntmps20
  go_wp2_with (at_make; go_must (refine mk_full (K := cH) w ty_intssL rfl _ _ rfl w.heap.size xss.length ⟨none, 0, 0⟩ rfl rfl rfl (by omega) (Nat.le_refl _) ?_; intro w1 ho1 hg1 hb1 hsz1))
  have HO : Hid (TNI w.heap.size xss 0 w w1 [] fun _ => w1.heap.size) := Lib.hid ⟨rfl, by simpa using ho1, hsz1, fun _ => Nat.le_refl _, fun _ => Nat.le_refl _, fun i p => (by simp at p), hb1⟩
  clear ho1 hg1 hb1 hsz1
  go_loopw [4] (fun i wr => ∃ k : Nat, k ≤ xss.length ∧ i = .int .i64 k ∧ ∃ hs b, TNI w.heap.size xss k w wr hs b) (fun i _ => xss.length - (intOf i).toNat)
  case atStart => exact ⟨0, Nat.zero_le _, rfl, _, _, HO.out⟩
  case round =>
    obtain ⟨k, hk, rfl, hs, bb, ht⟩ := hrel
    have HTN := Lib.hid ht
    by_cases hlt : k < xss.length
    · obtain ⟨b, o, Ai, ci, rfl, hbl, hc0, hsj⟩ := (HH.out.below ht.be).atMI hlt
      have HC := Lib.hid (u_to_SI _ _ wr hsj (by have := HG.out k hlt; have := HT.out; omega))
      have HST := Lib.hid (fun (Y : World) A' c' (ho : Ob cI 2 wr.heap.size Y.heap.size Y (.slice A' (xss[k]'hlt).length c') (xss[k]'hlt)) (hb : Below wr.heap.size wr Y) => ht.step hlt ho hb ht.be.size)
      have HRW := Lib.hid ht.row
      have hlk := ht.len
      have HLK := Lib.hid hlk
      have hgw : w.heap.size < wr.heap.size := by have := (ht.row.block w.heap.size rfl).2; exact this
      obtain ⟨m, hm⟩ : ∃ m : Nat, (xss[k]'hlt).length = m := ⟨_, rfl⟩
      rw [hm] at hc0 HC
      have HM := Lib.hid hm
      clear ht hsj hlk hm HO
      go_wp2_with fail
      refine HC.out.mono ?_
      rintro e w2 ⟨u, rfl, ho, hb⟩
      obtain ⟨A', c', rfl⟩ := ho.opn
      have hrow := HRW.out.below hb
      obtain ⟨q1, q2, q3, q4⟩ := hrow.at1 (j := k) (u := .slice none 0 0) rfl (by simp [HLK.out]; omega) (by rw [List.getElem_append_right (by rw [HLK.out]; omega)]; simp; rfl)
      have HX := Lib.hid (HST.out w2 A' c' ho hb)
      rw [HM.out] at HX ⊢
      clear ho hb hrow hc0
      go_wp2
      go_roundw
      case rel => exact ⟨k + 1, by omega, by go_num, HX.out⟩
      case measure => simp [intOf]; omega
    · obtain rfl : k = xss.length := by omega
      have Z := Lib.hid ht.fin
      have ZB := Lib.hid ht.be
      clear ht HO
      go_wp2
      go_ret
      exact ⟨_, rfl, Z.out, ZB.out⟩
open Go.RowKit Go.ChangeShapes Go.WideShapes Go.Deep in
/-- a slice of slices of pairs of int64s that came in -/
theorem open_SSI {H : Type} {enc : TypeId × Value → H} {P : Program} {w : World} {base : Nat} {spare : Nat → Bool} {held : Bool} {t e e2 : TypeId} (ht : P.underlying t = some (.slice e)) (hc : P.cellsOf e = 1) (he : P.underlying e = some (.slice e2)) (he2 : P.underlying e2 = some (.int .i64)) (hC : P.cellsOf e2 = 1) {fuel : Nat} {v : Value} {x : DataW H × List MemPlace}
    (h : DataW.trod enc P w base spare held fuel t [v] = some x) : ∃ xss : List (List Int), Sl2 cI w v xss := by
  rcases open_slice1 ht hc h with ⟨hcs, _⟩ | ⟨a, len, cap, m, n, V, D, Pl, hcs, -, hl, hm, hmm, -, hi⟩
  · injection hcs with hv _
    subst hv
    exact ⟨[], [], Sl.nil, rfl, fun i a => by simp at a⟩
  · injection hcs with hv _
    subst hv
    have hml : len ≤ m := by rw [hmm]; split <;> omega
    have hex : ∀ i, i < len → ∃ (q : Hd) (xs : List Int), w.cell? (a.add i) = some q.val ∧ Sl cI w q.val xs := by
      intro i hil
      obtain ⟨g1, g2⟩ := hi i (by omega)
      obtain ⟨xs, hs⟩ := open_SI he he2 hC g2
      obtain ⟨A, c, hv⟩ := hs.opn
      rw [hv] at g1 hs
      exact ⟨⟨A, xs.length, c⟩, xs, g1, hs⟩
    obtain ⟨hs, xss, e1, e2, h3⟩ : ∃ (hs : List Hd) (xss : List (List Int)), hs.length = len ∧ xss.length = len ∧ ∀ i (p : i < hs.length) (q : i < xss.length), w.cell? (a.add i) = some hs[i].val ∧ Sl cI w hs[i].val xss[i] := by
      clear hi hml hm hl hmm h
      induction len with
      | zero => exact ⟨[], [], rfl, rfl, fun i p => by simp at p⟩
      | succ l ih =>
        obtain ⟨hs, xss, e1, e2, h3⟩ := ih fun i hi => hex i (by omega)
        obtain ⟨q, xs, g1, g2⟩ := hex l (by omega)
        refine ⟨hs ++ [q], xss ++ [xs], by simp [e1], by simp [e2], fun i p r => ?_⟩
        by_cases hil : i < hs.length
        · rw [List.getElem_append_left hil, List.getElem_append_left (by omega)]
          exact h3 i hil (by omega)
        · have : i = l := by simp at p; omega
          subst this
          have a1 : (hs ++ [q])[i] = q := by simp [e1]
          have a2 : (xss ++ [xs])[i] = xs := by simp [e2]
          rw [a1, a2]
          exact ⟨g1, g2⟩
    refine ⟨xss, hs, sl_of_cells (K := cH) e1.symm hl hm fun k u hu => ?_, by omega, fun i p q => (h3 i p q).2⟩
    have hkl : k < hs.length := by
      have := (List.getElem?_eq_some_iff.1 hu).1
      rw [flat_length] at this
      simpa [cH] using this
    have h2 := flat_get (K := cH) hs k hkl 0 (by decide)
    rw [show k * cH.size + 0 = k by simp [cH], hu] at h2
    rw [(h3 k hkl (by omega)).1, h2]
    rfl
/-- the numbers that the laws write into lists, one behind the other -/
def numLL : List (List Int) → Int → List (List Int)
  | [], _ => []
  | x :: xs, k => numL x.length k :: numLL xs (k + x.length)
theorem numLL_length (xs : List (List Int)) (k : Int) : (numLL xs k).length = xs.length := by
  induction xs generalizing k with
  | nil => rfl
  | cons x xs ih => simp [numLL, ih]
theorem numLL_get (xs : List (List Int)) (k : Int) (i : Nat) (h : i < (numLL xs k).length) (h' : i < xs.length) : (numLL xs k)[i] = numL (xs[i]'h').length (k + sumLI (xs.take i)) := by
  induction xs generalizing k i with
  | nil => simp at h'
  | cons x xs ih =>
    cases i with
    | zero => simp [numLL, sumLI]
    | succ i =>
      simp only [numLL, List.getElem_cons_succ, List.take_succ_cons, sumLI]
      rw [ih (k + x.length) i (by simpa [numLL] using h) (by simpa using h')]
      congr 1
      push_cast
      omega
theorem sumLI_num (xs : List (List Int)) (k : Int) : sumLI (numLL xs k) = sumLI xs := by
  induction xs generalizing k with
  | nil => rfl
  | cons x xs ih => simp [numLL, sumLI, numL_length, ih]
theorem u_mark_SSI (v : Value) (xss : List (List Int)) (k : Int) (B H : Nat) (w : World) (h : ObT B H w v xss) (hl : totI xss ≤ 33554432) (hk : 0 ≤ k ∧ k ≤ 134217728) :
    Calls Try.prog 24 #[v, .int .i64 k] w fun e w' => e = .returned (.int .i64 (k + sumLI xss)) ∧ ObT B H w' v (numLL xss k) ∧ Keep B H w w' := by
  obtain ⟨A, c, rfl⟩ := h.opn
  obtain ⟨hs, b, h1, h2, h3, h4, h5, h6⟩ := h
  have hT : totI xss = xss.length + sumLI xss := rfl
  have hln : xss.length ≤ 33554432 := by omega
  have HG := Lib.hid (fun j (h : j < xss.length) => sumLI_get xss j h)
  have HS := Lib.hid (fun j (h : j < xss.length) => sumLI_succ xss j h)
  have HK := Lib.hid (fun j => sumLI_take xss j)
  have HT : Hid (sumLI xss ≤ 33554432) := Lib.hid (by omega)
  have H4 := Lib.hid h4
  have H5 := Lib.hid h5
  have H3 := Lib.hid h3
  have HSl : Hid (∀ X, Ob cH 26 B (b 0) X (.slice A xss.length c) hs → Sl cH X (.slice A hs.length c) hs) := Lib.hid (fun X hX => by rw [h2]; exact hX.sl)
  have H2 := Lib.hid h2
  have H60 := Lib.hid h6
  have H10 := Lib.hid h1
  have HNG := Lib.hid (fun i (q : i < xss.length) => numLL_get xss k i (by rw [numLL_length]; exact q) q)
  clear hT hl h4 h5 h2 h6 h1 h3
  go_enter Try.func24, Try.ntmps24
  go_wp2
  go_loopw [1, 5] (fun q i wr => ∃ j : Nat, j ≤ xss.length ∧ i = .int .i64 j ∧ q = .int .i64 (k + sumLI (xss.take j)) ∧ Ob cH 26 B (b 0) wr (.slice A xss.length c) hs ∧ (∀ i (p : i < hs.length) (q : i < xss.length), j ≤ i → Ob cI 2 (b i) (b (i + 1)) wr hs[i].val xss[i]) ∧ (∀ i (p : i < hs.length) (q : i < xss.length), i < j → Ob cI 2 (b i) (b (i + 1)) wr hs[i].val (numL (xss[i]).length (k + sumLI (xss.take i)))) ∧ Keep B H w wr) (fun _ i _ => xss.length - (intOf i).toNat)
  case atStart => exact ⟨0, Nat.zero_le _, rfl, by simp [sumLI], H10.out, fun i p q _ => H60.out i p q, fun i p q hi => absurd hi (Nat.not_lt_zero _), Keep.of_below (Below.refl _ _)⟩
  case round =>
    obtain ⟨j, hj, rfl, rfl, ho, hin, hdn, hkp⟩ := hrel
    have HO := Lib.hid ho
    have HI := Lib.hid hin
    have HD := Lib.hid hdn
    have HKP := Lib.hid hkp
    by_cases hlt : j < xss.length
    · have hjl : j < hs.length := by rw [H2.out]; exact hlt
      obtain ⟨bb, oo, rfl, hbb, hcc⟩ := (HSl.out _ ho).cell (k := j) hjl
      have hc0 := hcc 0 _ (show (cH.cells hs[j])[0]? = some hs[j].val from rfl)
      have hoj := hin j hjl hlt (Nat.le_refl _)
      obtain ⟨Aj, cj, hvj⟩ := hoj.opn
      have HVJ := Lib.hid hvj
      rw [hvj] at hc0 hoj
      simp only [show cH.size = 1 from rfl, Nat.mul_one, Nat.add_zero] at hc0
      obtain ⟨y, hy⟩ : ∃ y : Nat, sumLI (xss.take j) = y := ⟨_, rfl⟩
      obtain ⟨m, hm⟩ : ∃ m : Nat, (xss[j]'hlt).length = m := ⟨_, rfl⟩
      have hyl : y ≤ 33554432 := by rw [← hy]; have := HK.out j; have := HT.out; omega
      have hml : m ≤ 33554432 := by rw [← hm]; have := HG.out j hlt; have := HT.out; omega
      have HC := Lib.hid (u_mark_SI _ _ (k + (y : Int)) (b j) (b (j + 1)) wr hoj)
      have HSU : Hid (sumLI (xss.take (j + 1)) = y + m) := Lib.hid (by rw [HS.out j hlt, hy, hm])
      rw [hm] at hc0 HC
      rw [hy]
      have HM := Lib.hid hm
      have HY := Lib.hid hy
      have h2l := H2.out
      have HMO := Lib.hid (fun i (hi : j + 1 ≤ i) => mono_ofI H4.out hi)
      have HM0 := Lib.hid (mono_ofI H4.out (Nat.zero_le j))
      have HMB := Lib.hid (fun i (hi : i < j) => mono_ofI H4.out (show i + 1 ≤ j from hi))
      clear ho hin hdn hkp hcc hoj hy hm h2l hvj
      go_wp2_with fail
      refine (HC.out (by omega) (by omega)).mono ?_
      rintro e w2 ⟨rfl, ho2, hk2⟩
      have Z1 := Lib.hid (HO.out.keep hk2 (.inl HM0.out))
      have Z2 : Hid (∀ i (p : i < hs.length) (q : i < xss.length), j + 1 ≤ i → Ob cI 2 (b i) (b (i + 1)) w2 hs[i].val xss[i]) := Lib.hid (fun i p q hi => (HI.out i p q (by omega)).keep hk2 (.inr (HMO.out i hi)))
      have Z4 : Hid (∀ i (p : i < hs.length) (q : i < xss.length), i < j + 1 → Ob cI 2 (b i) (b (i + 1)) w2 hs[i].val (numL (xss[i]).length (k + sumLI (xss.take i)))) := Lib.hid (fun i p q hi => by
        rcases Nat.lt_or_ge i j with h9 | h9
        · exact (HD.out i p q h9).keep hk2 (.inl (HMB.out i h9))
        · obtain rfl : i = j := by omega
          rw [HVJ.out, HM.out, HY.out]
          exact ho2)
      have Z3 := Lib.hid (HKP.out.trans (hk2.mono (Nat.le_trans H3.out HM0.out) (H5.out _)))
      clear ho2 hk2 hc0
      go_wp2
      go_roundw
      case rel => exact ⟨j + 1, by omega, by go_num, by rw [HSU.out]; go_num, Z1.out, Z2.out, Z4.out, Z3.out⟩
      case measure => simp [intOf]; omega
    · obtain rfl : j = xss.length := by omega
      have e1 : xss.take xss.length = xss := List.take_length
      rw [e1]
      clear e1 ho hin hdn hkp HI
      go_wp2
      go_ret
      exact ⟨rfl, ⟨hs, b, HO.out, by rw [H2.out, numLL_length], H3.out, H4.out, H5.out, fun i p q => by
        have q' : i < xss.length := by rw [numLL_length] at q; exact q
        rw [HNG.out i q']; exact HD.out i p q' q'⟩, HKP.out⟩
theorem u_held_SSI (v : Value) (xss : List (List Int)) (k : Int) (w : World) (h : Sl2 cI w v (numLL xss k)) (hl : totI xss ≤ 33554432) (hk : 0 ≤ k ∧ k ≤ 134217728) :
    Calls Try.prog 29 #[v, .int .i64 k] w fun e w' => e = .returned (.int .i64 (k + sumLI xss)) ∧ Below w.heap.size w w' := by
  obtain ⟨A, c, rfl⟩ := h.opn
  have HNL := Lib.hid (numLL_length xss k)
  rw [HNL.out] at h ⊢
  have hT : totI xss = xss.length + sumLI xss := rfl
  have hln : xss.length ≤ 33554432 := by omega
  have HG := Lib.hid (fun j (h : j < xss.length) => sumLI_get xss j h)
  have HS := Lib.hid (fun j (h : j < xss.length) => sumLI_succ xss j h)
  have HK := Lib.hid (fun j => sumLI_take xss j)
  have HT : Hid (sumLI xss ≤ 33554432) := Lib.hid (by omega)
  have HNG := Lib.hid (fun i (q : i < xss.length) => numLL_get xss k i (by rw [numLL_length]; exact q) q)
  have HH := Lib.hid h
  clear hT hl h
  go_enter Try.func29, Try.ntmps29
  go_wp2
  go_loopw [1, 5] (fun q i wr => ∃ j : Nat, j ≤ xss.length ∧ i = .int .i64 j ∧ q = .int .i64 (k + sumLI (xss.take j)) ∧ Below w.heap.size w wr) (fun _ i _ => xss.length - (intOf i).toNat)
  case atStart => exact ⟨0, Nat.zero_le _, rfl, by simp [sumLI], Below.refl _ _⟩
  case round =>
    obtain ⟨j, hj, rfl, rfl, hb⟩ := hrel
    by_cases hlt : j < xss.length
    · obtain ⟨b, o, Ai, ci, rfl, hbl, hc0, hs⟩ := (HH.out.below hb).atMI (k := j) (by rw [HNL.out]; exact hlt)
      have eg := HNG.out j hlt
      rw [eg] at hc0 hs
      clear eg
      obtain ⟨y, hy⟩ : ∃ y : Nat, sumLI (xss.take j) = y := ⟨_, rfl⟩
      obtain ⟨m, hm⟩ : ∃ m : Nat, (xss[j]'hlt).length = m := ⟨_, rfl⟩
      have hyl : y ≤ 33554432 := by rw [← hy]; have := HK.out j; have := HT.out; omega
      have hml : m ≤ 33554432 := by rw [← hm]; have := HG.out j hlt; have := HT.out; omega
      have HSU : Hid (sumLI (xss.take (j + 1)) = y + m) := Lib.hid (by rw [HS.out j hlt, hy, hm])
      have HB := Lib.hid hb
      rw [hm, hy, numL_length] at hc0 hs
      have HC := Lib.hid (u_held_SI _ m (k + (y : Int)) wr hs)
      rw [hy]
      clear hb hs hy hm
      have hge : decide (k + (y : Int) + (m : Int) < 0) = false := decide_eq_false (by omega)
      go_wp2_with fail
      refine (HC.out (by omega) (by omega)).mono ?_
      rintro e w2 ⟨rfl, hb2⟩
      have Z := Lib.hid (bthen HB.out hb2)
      clear hb2
      go_wp2
      go_roundw
      case rel => exact ⟨j + 1, by omega, by go_num, by rw [HSU.out]; go_num, Z.out⟩
      case measure => simp [intOf]; omega
    · obtain rfl : j = xss.length := by omega
      have e1 : xss.take xss.length = xss := List.take_length
      rw [e1]
      clear e1
      go_wp2
      go_ret
      exact ⟨rfl, hb⟩
/- An argument's datum that is a struct of five fields, opened. -/
theorem array5 {α : Type} {a : Array α} (h : a.size = 5) : ∃ c0 c1 c2 c3 c4, a = #[c0, c1, c2, c3, c4] := by
  obtain ⟨l⟩ := a
  match l, h with
  | [c0, c1, c2, c3, c4], _ => exact ⟨c0, c1, c2, c3, c4, rfl⟩
open Go.ChangeShapes Go.WideShapes Go.ChangeAt Go.RowKit Go.Joins Go.Deep Go.Lib in
theorem open_agg5 {H : Type} {enc : TypeId × Value → H} {P : Program} {w : World} {base : Nat} {spare : Nat → Bool} {held : Bool} {r : Reach} {b0 : Nat} {t : TypeId} {f0 f1 f2 f3 f4 : Field} {v : Value} {d : DataW H} {p : List MemPlace}
    (hs : P.underlying t = some (.struct #[f0, f1, f2, f3, f4])) (hone : oneCellFields P #[f0, f1, f2, f3, f4] = true) (hC : P.cellsOf t = 5)
    (hv : Value.okWide P w r b0 t v) (h : DataW.Trod enc P w base spare held t v d p) :
    ∃ (v0 v1 v2 v3 v4 : Value) (y0 y1 y2 y3 y4 : DataW H × List MemPlace) (n : Nat), v = .agg #[v0, v1, v2, v3, v4] ∧
      DataW.trod enc P w base spare held n f0.type [v0] = some y0 ∧ DataW.trod enc P w base spare held n f1.type [v1] = some y1 ∧ DataW.trod enc P w base spare held n f2.type [v2] = some y2 ∧ DataW.trod enc P w base spare held n f3.type [v3] = some y3 ∧ DataW.trod enc P w base spare held n f4.type [v4] = some y4 := by
  obtain ⟨cs, rfl, hsz⟩ := okWide_struct hs hv
  obtain ⟨c0, c1, c2, c3, c4, rfl⟩ := array5 (hsz.trans hC)
  obtain ⟨fuel, hf⟩ := h
  obtain ⟨xs, n, _, -, hl, hlen, hff⟩ := DataW.trod_struct hs hf
  match xs, hlen with
  | [y0, y1, y2, y3, y4], _ =>
    have h0 := hff 0 f0 rfl
    have h1 := hff 1 f1 rfl
    have h2 := hff 2 f2 rfl
    have h3 := hff 3 f3 rfl
    have h4 := hff 4 f4 rfl
    obtain ⟨o0, k0⟩ := hone_of hone 0 f0 rfl
    obtain ⟨o1, k1⟩ := hone_of hone 1 f1 rfl
    obtain ⟨o2, k2⟩ := hone_of hone 2 f2 rfl
    obtain ⟨o3, k3⟩ := hone_of hone 3 f3 rfl
    obtain ⟨o4, k4⟩ := hone_of hone 4 f4 rfl
    exact ⟨c0, c1, c2, c3, c4, y0, y1, y2, y3, y4, n, rfl, by simpa [Value.cells, o0, k0] using h0, by simpa [Value.cells, o1, k1] using h1, by simpa [Value.cells, o2, k2] using h2, by simpa [Value.cells, o3, k3] using h3, by simpa [Value.cells, o4, k4] using h4⟩
/- The laws' own functions on Heyting algebras in the one form. Written by gen18P.py. -/
theorem u_sz_Heyting (v0 : Value) (A : List (List Int)) (v1 : Value) (O : List (List Int)) (v2 : Value) (I : List (List Int)) (b t : Int) (l : Int) (w : World) (h0 : Sl2 cI w v0 A) (h1 : Sl2 cI w v1 O) (h2 : Sl2 cI w v2 I) (hl : -1 ≤ l ∧ l ≤ 1048576) :
    Calls Try.prog 5 #[.agg #[v0, v1, v2, .int .i64 b, .int .i64 t], .int .i64 l] w fun e w' => e = .returned (.int .i64 (szL l (totI A + totI O + totI I : Nat))) ∧ Below w.heap.size w w' := by
  have hb0 := below_alloc' w (.cells #[v0, v1, v2, .int .i64 b, .int .i64 t] 24)
  have hk0 := Blk.new w 24 #[v0, v1, v2, .int .i64 b, .int .i64 t]
  have HB := Lib.hid hb0
  have HK0 := Lib.hid hk0
  have H0 := Lib.hid (fun (l : Int) (hl : -1 ≤ l ∧ l ≤ 1048576) W (hW : Below w.heap.size w W) => u_sz_SSI v0 A l W (h0.below hW) hl)
  have H1 := Lib.hid (fun (l : Int) (hl : -1 ≤ l ∧ l ≤ 1048576) W (hW : Below w.heap.size w W) => u_sz_SSI v1 O l W (h1.below hW) hl)
  have H2 := Lib.hid (fun (l : Int) (hl : -1 ≤ l ∧ l ≤ 1048576) W (hW : Below w.heap.size w W) => u_sz_SSI v2 I l W (h2.below hW) hl)
  clear hb0 hk0 h0 h1 h2
  rcases (show l - (totI A : Int) < 0 ∨ ¬ l - (totI A : Int) < 0 by omega) with q0 | q0
  · rw [szL_neg (show l - ((totI A + totI O + totI I : Nat) : Int) < 0 by omega)]
    go_enter Try.func5, Try.ntmps5
    go_upto_region 1 with fail
    generalize World.alloc w _ = W at *
    have k0 := HK0.out.cell
    have l0 := HK0.out.lt
    have C0 := H0.out (l) (by omega) _ HB.out
    rw [szL_neg (by omega)] at C0
    have CC0 := Lib.hid C0
    clear C0
    go_wp2_with fail
    refine CC0.out.mono ?_
    rintro e w1 ⟨rfl, hb⟩
    have HB1 := Lib.hid (bthen HB.out hb)
    have HK1 := Lib.hid (HK0.out.below hb l0)
    clear k0 l0 hb
    go_wp2
    go_ret
    exact ⟨rfl, HB1.out⟩
  · rcases (show l - (totI A : Int) - (totI O : Int) < 0 ∨ ¬ l - (totI A : Int) - (totI O : Int) < 0 by omega) with q1 | q1
    · rw [szL_neg (show l - ((totI A + totI O + totI I : Nat) : Int) < 0 by omega)]
      go_enter Try.func5, Try.ntmps5
      go_upto_region 1 with fail
      generalize World.alloc w _ = W at *
      have k0 := HK0.out.cell
      have l0 := HK0.out.lt
      have C0 := H0.out (l) (by omega) _ HB.out
      rw [szL_pos (by omega)] at C0
      have CC0 := Lib.hid C0
      clear C0
      go_wp2_with fail
      refine CC0.out.mono ?_
      rintro e w1 ⟨rfl, hb⟩
      have HB1 := Lib.hid (bthen HB.out hb)
      have HK1 := Lib.hid (HK0.out.below hb l0)
      clear k0 l0 hb
      have n0 : decide (l - (totI A : Int) < 0) = false := decide_eq_false (by omega)
      have k0 := HK1.out.cell
      have l0 := HK1.out.lt
      have C1 := H1.out (l - (totI A : Int)) (by omega) _ HB1.out
      rw [szL_neg (by omega)] at C1
      have CC1 := Lib.hid C1
      clear C1
      go_wp2_with fail
      refine CC1.out.mono ?_
      rintro e w2 ⟨rfl, hb⟩
      have HB2 := Lib.hid (bthen HB1.out hb)
      have HK2 := Lib.hid (HK1.out.below hb l0)
      clear k0 l0 hb
      go_wp2
      go_ret
      exact ⟨rfl, HB2.out⟩
    · rcases (show l - (totI A : Int) - (totI O : Int) - (totI I : Int) < 0 ∨ ¬ l - (totI A : Int) - (totI O : Int) - (totI I : Int) < 0 by omega) with q2 | q2
      · rw [szL_neg (show l - ((totI A + totI O + totI I : Nat) : Int) < 0 by omega)]
        go_enter Try.func5, Try.ntmps5
        go_upto_region 1 with fail
        generalize World.alloc w _ = W at *
        have k0 := HK0.out.cell
        have l0 := HK0.out.lt
        have C0 := H0.out (l) (by omega) _ HB.out
        rw [szL_pos (by omega)] at C0
        have CC0 := Lib.hid C0
        clear C0
        go_wp2_with fail
        refine CC0.out.mono ?_
        rintro e w1 ⟨rfl, hb⟩
        have HB1 := Lib.hid (bthen HB.out hb)
        have HK1 := Lib.hid (HK0.out.below hb l0)
        clear k0 l0 hb
        have n0 : decide (l - (totI A : Int) < 0) = false := decide_eq_false (by omega)
        have k0 := HK1.out.cell
        have l0 := HK1.out.lt
        have C1 := H1.out (l - (totI A : Int)) (by omega) _ HB1.out
        rw [szL_pos (by omega)] at C1
        have CC1 := Lib.hid C1
        clear C1
        go_wp2_with fail
        refine CC1.out.mono ?_
        rintro e w2 ⟨rfl, hb⟩
        have HB2 := Lib.hid (bthen HB1.out hb)
        have HK2 := Lib.hid (HK1.out.below hb l0)
        clear k0 l0 hb
        have n1 : decide (l - (totI A : Int) - (totI O : Int) < 0) = false := decide_eq_false (by omega)
        have k0 := HK2.out.cell
        have l0 := HK2.out.lt
        have C2 := H2.out (l - (totI A : Int) - (totI O : Int)) (by omega) _ HB2.out
        rw [szL_neg (by omega)] at C2
        have CC2 := Lib.hid C2
        clear C2
        go_wp2_with fail
        refine CC2.out.mono ?_
        rintro e w3 ⟨rfl, hb⟩
        have HB3 := Lib.hid (bthen HB2.out hb)
        have HK3 := Lib.hid (HK2.out.below hb l0)
        clear k0 l0 hb
        go_wp2
        go_ret
        exact ⟨rfl, HB3.out⟩
      · rw [szL_pos (show ¬ l - ((totI A + totI O + totI I : Nat) : Int) < 0 by omega), show l - ((totI A + totI O + totI I : Nat) : Int) = l - (totI A : Int) - (totI O : Int) - (totI I : Int) by omega]
        go_enter Try.func5, Try.ntmps5
        go_upto_region 1 with fail
        generalize World.alloc w _ = W at *
        have k0 := HK0.out.cell
        have l0 := HK0.out.lt
        have C0 := H0.out (l) (by omega) _ HB.out
        rw [szL_pos (by omega)] at C0
        have CC0 := Lib.hid C0
        clear C0
        go_wp2_with fail
        refine CC0.out.mono ?_
        rintro e w1 ⟨rfl, hb⟩
        have HB1 := Lib.hid (bthen HB.out hb)
        have HK1 := Lib.hid (HK0.out.below hb l0)
        clear k0 l0 hb
        have n0 : decide (l - (totI A : Int) < 0) = false := decide_eq_false (by omega)
        have k0 := HK1.out.cell
        have l0 := HK1.out.lt
        have C1 := H1.out (l - (totI A : Int)) (by omega) _ HB1.out
        rw [szL_pos (by omega)] at C1
        have CC1 := Lib.hid C1
        clear C1
        go_wp2_with fail
        refine CC1.out.mono ?_
        rintro e w2 ⟨rfl, hb⟩
        have HB2 := Lib.hid (bthen HB1.out hb)
        have HK2 := Lib.hid (HK1.out.below hb l0)
        clear k0 l0 hb
        have n1 : decide (l - (totI A : Int) - (totI O : Int) < 0) = false := decide_eq_false (by omega)
        have k0 := HK2.out.cell
        have l0 := HK2.out.lt
        have C2 := H2.out (l - (totI A : Int) - (totI O : Int)) (by omega) _ HB2.out
        rw [szL_pos (by omega)] at C2
        have CC2 := Lib.hid C2
        clear C2
        go_wp2_with fail
        refine CC2.out.mono ?_
        rintro e w3 ⟨rfl, hb⟩
        have HB3 := Lib.hid (bthen HB2.out hb)
        have HK3 := Lib.hid (HK2.out.below hb l0)
        clear k0 l0 hb
        have n2 : decide (l - (totI A : Int) - (totI O : Int) - (totI I : Int) < 0) = false := decide_eq_false (by omega)
        go_wp2
        go_ret
        exact ⟨rfl, HB3.out⟩
theorem u_eq_Heyting (v0 u0 : Value) (A : List (List Int)) (v1 u1 : Value) (O : List (List Int)) (v2 u2 : Value) (I : List (List Int)) (b t : Int) (w : World) (h0 : Sl2 cI w v0 A) (h1 : Sl2 cI w v1 O) (h2 : Sl2 cI w v2 I) (g0 : Sl2 cI w u0 A) (g1 : Sl2 cI w u1 O) (g2 : Sl2 cI w u2 I) (hn : totI A + totI O + totI I ≤ 268435456) :
    Calls Try.prog 10 #[.agg #[v0, v1, v2, .int .i64 b, .int .i64 t], .agg #[u0, u1, u2, .int .i64 b, .int .i64 t]] w fun e w' => e = .returned (.bool true) ∧ Below w.heap.size w w' := by
  have hb0 := below_alloc' w (.cells #[v0, v1, v2, .int .i64 b, .int .i64 t] 29)
  have hk0 := Blk.new w 29 #[v0, v1, v2, .int .i64 b, .int .i64 t]
  have hb1 := below_alloc' (w.alloc (.cells #[v0, v1, v2, .int .i64 b, .int .i64 t] 29)) (.cells #[u0, u1, u2, .int .i64 b, .int .i64 t] 29)
  have hk1 : Blk _ (w.heap.size + 1) _ _ := Blk.new' (w.alloc (.cells #[v0, v1, v2, .int .i64 b, .int .i64 t] 29)) 29 #[u0, u1, u2, .int .i64 b, .int .i64 t] (by simp)
  have HB := Lib.hid (bthen hb0 hb1)
  have HK0 := Lib.hid (hk0.below hb1 hk0.lt)
  have HJ0 := Lib.hid hk1
  have H0 := Lib.hid (fun W (hW : Below w.heap.size w W) => u_eq_SSI v0 u0 A W (h0.below hW) (g0.below hW) (by omega))
  have H1 := Lib.hid (fun W (hW : Below w.heap.size w W) => u_eq_SSI v1 u1 O W (h1.below hW) (g1.below hW) (by omega))
  have H2 := Lib.hid (fun W (hW : Below w.heap.size w W) => u_eq_SSI v2 u2 I W (h2.below hW) (g2.below hW) (by omega))
  have e3 : (b != b) = false := by simp
  have e4 : (t != t) = false := by simp
  clear hb0 hb1 hk0 hk1 h0 h1 h2 g0 g1 g2
  go_enter Try.func10, Try.ntmps10
  go_upto_region 1 with fail
  generalize World.alloc (w.alloc _) _ = W at *
  have k0 := HK0.out.cell
  have l0 := HK0.out.lt
  have j0 := HJ0.out.cell
  have m0 := HJ0.out.lt
  go_wp2_with fail
  refine (H0.out _ HB.out).mono ?_
  rintro e w1 ⟨rfl, hb⟩
  have HB1 := Lib.hid (bthen HB.out hb)
  have HK1 := Lib.hid (HK0.out.below hb l0)
  have HJ1 := Lib.hid (HJ0.out.below hb m0)
  clear k0 l0 j0 m0 hb
  have k0 := HK1.out.cell
  have l0 := HK1.out.lt
  have j0 := HJ1.out.cell
  have m0 := HJ1.out.lt
  go_wp2_with fail
  refine (H1.out _ HB1.out).mono ?_
  rintro e w2 ⟨rfl, hb⟩
  have HB2 := Lib.hid (bthen HB1.out hb)
  have HK2 := Lib.hid (HK1.out.below hb l0)
  have HJ2 := Lib.hid (HJ1.out.below hb m0)
  clear k0 l0 j0 m0 hb
  have k0 := HK2.out.cell
  have l0 := HK2.out.lt
  have j0 := HJ2.out.cell
  have m0 := HJ2.out.lt
  go_wp2_with fail
  refine (H2.out _ HB2.out).mono ?_
  rintro e w3 ⟨rfl, hb⟩
  have HB3 := Lib.hid (bthen HB2.out hb)
  have HK3 := Lib.hid (HK2.out.below hb l0)
  have HJ3 := Lib.hid (HJ2.out.below hb m0)
  clear k0 l0 j0 m0 hb
  have k0 := HK3.out.cell
  have l0 := HK3.out.lt
  have j0 := HJ3.out.cell
  have m0 := HJ3.out.lt
  go_wp2
  go_ret
  exact ⟨rfl, HB3.out⟩
theorem u_mark_Heyting (v0 : Value) (A : List (List Int)) (v1 : Value) (O : List (List Int)) (v2 : Value) (I : List (List Int)) (b t : Int) (k : Int) (B H1 H2 H3 : Nat) (w : World) (h0 : ObT B H1 w v0 A) (h1 : ObT H1 H2 w v1 O) (h2 : ObT H2 H3 w v2 I) (hs : B ≤ H1 ∧ H1 ≤ H2 ∧ H2 ≤ H3 ∧ H3 ≤ w.heap.size) (hl : totI A + totI O + totI I ≤ 33554432) (hk : 0 ≤ k ∧ k ≤ 16777216) :
    Calls Try.prog 11 #[.agg #[v0, v1, v2, .int .i64 b, .int .i64 t], .int .i64 k] w fun e w' => e = .returned (.int .i64 (k + sumLI A + sumLI O + sumLI I)) ∧ ObT B H1 w' v0 (numLL A k) ∧ ObT H1 H2 w' v1 (numLL O (k + sumLI A)) ∧ ObT H2 H3 w' v2 (numLL I (k + sumLI A + sumLI O)) ∧ Keep B H3 w w' := by
  have hb0 := below_alloc' w (.cells #[v0, v1, v2, .int .i64 b, .int .i64 t] 29)
  have hk0 := Blk.new w 29 #[v0, v1, v2, .int .i64 b, .int .i64 t]
  have s0 := sumLI_tot A
  have s1 := sumLI_tot O
  have s2 := sumLI_tot I
  have HK0 := Lib.hid hk0
  have A0 := Lib.hid (h0.below hb0)
  have A1 := Lib.hid (h1.below hb0)
  have A2 := Lib.hid (h2.below hb0)
  have KP0 := Lib.hid (Keep.of_below (B := B) (H := H3) hb0)
  obtain ⟨hs1, hs2, hs3, hs4⟩ := hs
  clear h0 h1 h2 hb0 hk0
  go_enter Try.func11, Try.ntmps11
  go_upto_region 1 with fail
  generalize World.alloc w _ = W at *
  have k0 := HK0.out.cell
  have l0 := HK0.out.lt
  go_wp2_with fail
  refine (u_mark_SSI v0 A (k) B H1 _ A0.out (by omega) (by omega)).mono ?_
  rintro e w1 ⟨rfl, ho, hkp⟩
  have HK1 : Hid (Blk w1 w.heap.size 29 #[v0, v1, v2, .int .i64 b, .int .i64 t]) := Lib.hid ((hkp.block _ l0 (.inr (by omega))).trans HK0.out)
  have N0 := Lib.hid ho
  replace A1 := Lib.hid (A1.out.keep hkp (.inr (by omega)))
  replace A2 := Lib.hid (A2.out.keep hkp (.inr (by omega)))
  have KP1 := Lib.hid (KP0.out.trans (hkp.mono (by omega) (by omega)))
  clear k0 l0 ho hkp
  have k0 := HK1.out.cell
  have l0 := HK1.out.lt
  go_wp2_with fail
  refine (u_mark_SSI v1 O (k + sumLI A) H1 H2 _ A1.out (by omega) (by omega)).mono ?_
  rintro e w2 ⟨rfl, ho, hkp⟩
  have HK2 : Hid (Blk w2 w.heap.size 29 #[v0, v1, v2, .int .i64 b, .int .i64 t]) := Lib.hid ((hkp.block _ l0 (.inr (by omega))).trans HK1.out)
  have N1 := Lib.hid ho
  replace N0 := Lib.hid (N0.out.keep hkp (.inl (by omega)))
  replace A2 := Lib.hid (A2.out.keep hkp (.inr (by omega)))
  have KP2 := Lib.hid (KP1.out.trans (hkp.mono (by omega) (by omega)))
  clear k0 l0 ho hkp
  have k0 := HK2.out.cell
  have l0 := HK2.out.lt
  go_wp2_with fail
  refine (u_mark_SSI v2 I (k + sumLI A + sumLI O) H2 H3 _ A2.out (by omega) (by omega)).mono ?_
  rintro e w3 ⟨rfl, ho, hkp⟩
  have HK3 : Hid (Blk w3 w.heap.size 29 #[v0, v1, v2, .int .i64 b, .int .i64 t]) := Lib.hid ((hkp.block _ l0 (.inr (by omega))).trans HK2.out)
  have N2 := Lib.hid ho
  replace N0 := Lib.hid (N0.out.keep hkp (.inl (by omega)))
  replace N1 := Lib.hid (N1.out.keep hkp (.inl (by omega)))
  have KP3 := Lib.hid (KP2.out.trans (hkp.mono (by omega) (by omega)))
  clear k0 l0 ho hkp
  go_wp2
  go_ret
  exact ⟨rfl, N0.out, N1.out, N2.out, KP3.out⟩
theorem u_held_Heyting (v0 : Value) (A : List (List Int)) (v1 : Value) (O : List (List Int)) (v2 : Value) (I : List (List Int)) (b t : Int) (k : Int) (w : World) (h0 : Sl2 cI w v0 (numLL A k)) (h1 : Sl2 cI w v1 (numLL O (k + sumLI A))) (h2 : Sl2 cI w v2 (numLL I (k + sumLI A + sumLI O))) (hl : totI A + totI O + totI I ≤ 33554432) (hk : 0 ≤ k ∧ k ≤ 16777216) :
    Calls Try.prog 16 #[.agg #[v0, v1, v2, .int .i64 b, .int .i64 t], .int .i64 k] w fun e w' => e = .returned (.int .i64 (k + sumLI A + sumLI O + sumLI I)) ∧ Below w.heap.size w w' := by
  have hb0 := below_alloc' w (.cells #[v0, v1, v2, .int .i64 b, .int .i64 t] 29)
  have hk0 := Blk.new w 29 #[v0, v1, v2, .int .i64 b, .int .i64 t]
  have s0 := sumLI_tot A
  have s1 := sumLI_tot O
  have s2 := sumLI_tot I
  have HB := Lib.hid hb0
  have HK0 := Lib.hid hk0
  have H0 := Lib.hid (fun W (hW : Below w.heap.size w W) => u_held_SSI v0 A (k) W (h0.below hW) (by omega) (by omega))
  have H1 := Lib.hid (fun W (hW : Below w.heap.size w W) => u_held_SSI v1 O (k + sumLI A) W (h1.below hW) (by omega) (by omega))
  have H2 := Lib.hid (fun W (hW : Below w.heap.size w W) => u_held_SSI v2 I (k + sumLI A + sumLI O) W (h2.below hW) (by omega) (by omega))
  have n0 : decide (k + (sumLI A : Int) < 0) = false := decide_eq_false (by omega)
  have n1 : decide (k + (sumLI A : Int) + (sumLI O : Int) < 0) = false := decide_eq_false (by omega)
  have n2 : decide (k + (sumLI A : Int) + (sumLI O : Int) + (sumLI I : Int) < 0) = false := decide_eq_false (by omega)
  clear hb0 hk0 h0 h1 h2
  go_enter Try.func16, Try.ntmps16
  go_upto_region 1 with fail
  generalize World.alloc w _ = W at *
  have k0 := HK0.out.cell
  have l0 := HK0.out.lt
  go_wp2_with fail
  refine (H0.out _ HB.out).mono ?_
  rintro e w1 ⟨rfl, hb⟩
  have HB1 := Lib.hid (bthen HB.out hb)
  have HK1 := Lib.hid (HK0.out.below hb l0)
  clear k0 l0 hb
  have k0 := HK1.out.cell
  have l0 := HK1.out.lt
  go_wp2_with fail
  refine (H1.out _ HB1.out).mono ?_
  rintro e w2 ⟨rfl, hb⟩
  have HB2 := Lib.hid (bthen HB1.out hb)
  have HK2 := Lib.hid (HK1.out.below hb l0)
  clear k0 l0 hb
  have k0 := HK2.out.cell
  have l0 := HK2.out.lt
  go_wp2_with fail
  refine (H2.out _ HB2.out).mono ?_
  rintro e w3 ⟨rfl, hb⟩
  have HB3 := Lib.hid (bthen HB2.out hb)
  have HK3 := Lib.hid (HK2.out.below hb l0)
  clear k0 l0 hb
  go_wp2
  go_ret
  exact ⟨rfl, HB3.out⟩
theorem ObT.mono {B B' H : Nat} {w : World} {v : Value} {xss : List (List Int)} (h : ObT B H w v xss) (hB : B' ≤ B) : ObT B' H w v xss := by
  obtain ⟨hs, b, h1, h2, h3, h4, h5, h6⟩ := h
  exact ⟨hs, b, ⟨h1.1.mono hB, h1.2⟩, h2, by omega, h4, h5, h6⟩
theorem ObT.set {B H : Nat} {w : World} {v : Value} {xss : List (List Int)} (h : ObT B H w v xss) {p : Addr} (hp : p.block < B) (u : Value) : ObT B H (w.setCell p u) v xss := by
  obtain ⟨hs, b, h1, h2, h3, h4, h5, h6⟩ := h
  refine ⟨hs, b, ⟨h1.1.setBelow hp u, h1.2⟩, h2, h3, h4, h5, fun i p' q => ?_⟩
  have hm := mono_ofI h4 (Nat.zero_le i)
  exact ⟨(h6 i p' q).1.setBelow (by omega) u, (h6 i p' q).2⟩
theorem u_to_Heyting (v0 : Value) (A : List (List Int)) (v1 : Value) (O : List (List Int)) (v2 : Value) (I : List (List Int)) (b t : Int) (w : World) (h0 : Sl2 cI w v0 A) (h1 : Sl2 cI w v1 O) (h2 : Sl2 cI w v2 I) (hl : totI A + totI O + totI I ≤ 1048576) :
    Calls Try.prog 7 #[.agg #[v0, v1, v2, .int .i64 b, .int .i64 t]] w fun e w' => ∃ u0 u1 u2 : Value, ∃ H1 H2 : Nat, e = .returned (.agg #[u0, u1, u2, .int .i64 b, .int .i64 t]) ∧ w.heap.size ≤ H1 ∧ H1 ≤ H2 ∧ H2 ≤ w'.heap.size ∧ ObT w.heap.size H1 w' u0 A ∧ ObT H1 H2 w' u1 O ∧ ObT H2 w'.heap.size w' u2 I ∧ Below w.heap.size w w' := by
  obtain ⟨a0, c0, rfl⟩ := h0.opn
  obtain ⟨a1, c1, rfl⟩ := h1.opn
  obtain ⟨a2, c2, rfl⟩ := h2.opn
  have H0 := Lib.hid (fun W (hW : Below w.heap.size w W) => u_to_SSI _ A W (h0.below hW) (by omega))
  have H1 := Lib.hid (fun W (hW : Below w.heap.size w W) => u_to_SSI _ O W (h1.below hW) (by omega))
  have H2 := Lib.hid (fun W (hW : Below w.heap.size w W) => u_to_SSI _ I W (h2.below hW) (by omega))
  have hb0 := below_alloc' w (.cells #[.slice a0 A.length c0, .slice a1 O.length c1, .slice a2 I.length c2, .int .i64 b, .int .i64 t] 24)
  have hk0 := Blk.new w 24 #[.slice a0 A.length c0, .slice a1 O.length c1, .slice a2 I.length c2, .int .i64 b, .int .i64 t]
  clear h0 h1 h2
  obtain ⟨W, hW⟩ : ∃ W, ((w.alloc (.cells #[.slice a0 A.length c0, .slice a1 O.length c1, .slice a2 I.length c2, .int .i64 b, .int .i64 t] 24)).alloc (.cells #[.slice none 0 0, .slice none 0 0, .slice none 0 0, .int .i64 0, .int .i64 0] 29)).alloc (.cells #[.slice none 0 0, .slice none 0 0, .slice none 0 0, .int .i64 0, .int .i64 0] 29) = W := ⟨_, rfl⟩
  have HW : Hid (Below w.heap.size w W) := Lib.hid (by rw [← hW]; exact (((hb0.alloc (by simp) _)).alloc (by simp <;> omega) _))
  have hbW : Below (w.heap.size + 1) (w.alloc (.cells #[.slice a0 A.length c0, .slice a1 O.length c1, .slice a2 I.length c2, .int .i64 b, .int .i64 t] 24)) W := by rw [← hW]; exact (((Below.refl _ _).alloc (by simp) _).alloc (by simp <;> omega) _)
  have HK := Lib.hid (hk0.below hbW (by omega))
  have HR : Hid (Blk W (w.heap.size + 1) 29 #[.slice none 0 0, .slice none 0 0, .slice none 0 0, .int .i64 0, .int .i64 0]) := Lib.hid (by rw [← hW]; exact (Blk.new' _ _ _ (by simp)).alloc _)
  have HT : Hid (Blk W (w.heap.size + 1 + 1) 29 #[.slice none 0 0, .slice none 0 0, .slice none 0 0, .int .i64 0, .int .i64 0]) := Lib.hid (by rw [← hW]; exact Blk.new' _ _ _ (by simp))
  have hWs : W.heap.size = w.heap.size + 3 := by rw [← hW]; simp
  go_enter Try.func7, Try.ntmps7
  go_upto_region 2 with fail
  try rw [hW]
  clear hW hbW hb0 hk0
  have k0 := HK.out.cell
  have l0 := HK.out.lt
  have l1 := HR.out.lt
  have l2 := HT.out.lt
  go_wp2_with fail
  refine (H0.out _ HW.out).mono ?_
  rintro e w1 ⟨u, rfl, ho, hb⟩
  obtain ⟨x0, y0, rfl⟩ := ho.opn
  have z0 := hb.size
  clear k0
  replace HK := Lib.hid (HK.out.below hb l0)
  replace HR := Lib.hid (HR.out.below hb l1)
  replace HT := Lib.hid (HT.out.below hb l2)
  replace HW := Lib.hid (bthen HW.out hb)
  have P0 := Lib.hid ho
  clear ho hb l0 l1 l2
  have k0 := HK.out.cell
  have j1 := HT.out.cell
  have f1 := HT.out.frozen
  have l0 := HK.out.lt
  have l1 := HR.out.lt
  have l2 := HT.out.lt
  go_upto_region 3 with fail
  have y0z : (World.setCell w1 ⟨w.heap.size + 1 + 1, 0, none⟩ (.slice x0 A.length y0)).heap.size = w1.heap.size := by simp [World.setCell]
  replace HK := Lib.hid (HK.out.far (p := ⟨w.heap.size + 1 + 1, 0, none⟩) (by show w.heap.size ≠ w.heap.size + 1 + 1; omega) (.slice x0 A.length y0))
  replace HR := Lib.hid (HR.out.far (p := ⟨w.heap.size + 1 + 1, 0, none⟩) (by show w.heap.size + 1 ≠ w.heap.size + 1 + 1; omega) (.slice x0 A.length y0))
  have HT9 : Hid (Blk _ (w.heap.size + 1 + 1) 29 #[.slice x0 A.length y0, .slice none 0 0, .slice none 0 0, .int .i64 0, .int .i64 0]) := Lib.hid (HT.out.set_ 0 (.slice x0 A.length y0))
  replace HW := Lib.hid (HW.out.setCell (p := ⟨w.heap.size + 1 + 1, 0, none⟩) (by show w.heap.size ≤ w.heap.size + 1 + 1; omega) (.slice x0 A.length y0))
  replace P0 := Lib.hid (ObT.set P0.out (p := ⟨w.heap.size + 1 + 1, 0, none⟩) (by show w.heap.size + 1 + 1 < _; omega) (.slice x0 A.length y0))
  clear HT k0 j1 f1 l0 l1 l2
  have HT := HT9
  clear HT9
  generalize World.setCell w1 ⟨w.heap.size + 1 + 1, 0, none⟩ _ = w2 at *
  have k0 := HK.out.cell
  have l0 := HK.out.lt
  have l1 := HR.out.lt
  have l2 := HT.out.lt
  go_wp2_with fail
  refine (H1.out _ HW.out).mono ?_
  rintro e w3 ⟨u, rfl, ho, hb⟩
  obtain ⟨x1, y1, rfl⟩ := ho.opn
  have z1 := hb.size
  clear k0
  replace HK := Lib.hid (HK.out.below hb l0)
  replace HR := Lib.hid (HR.out.below hb l1)
  replace HT := Lib.hid (HT.out.below hb l2)
  replace HW := Lib.hid (bthen HW.out hb)
  replace P0 := Lib.hid (P0.out.below hb)
  have P1 := Lib.hid ho
  clear ho hb l0 l1 l2
  have k0 := HK.out.cell
  have j1 := HT.out.cell
  have f1 := HT.out.frozen
  have l0 := HK.out.lt
  have l1 := HR.out.lt
  have l2 := HT.out.lt
  go_upto_region 4 with fail
  have y1z : (World.setCell w3 ⟨w.heap.size + 1 + 1, 1, none⟩ (.slice x1 O.length y1)).heap.size = w3.heap.size := by simp [World.setCell]
  replace HK := Lib.hid (HK.out.far (p := ⟨w.heap.size + 1 + 1, 1, none⟩) (by show w.heap.size ≠ w.heap.size + 1 + 1; omega) (.slice x1 O.length y1))
  replace HR := Lib.hid (HR.out.far (p := ⟨w.heap.size + 1 + 1, 1, none⟩) (by show w.heap.size + 1 ≠ w.heap.size + 1 + 1; omega) (.slice x1 O.length y1))
  have HT9 : Hid (Blk _ (w.heap.size + 1 + 1) 29 #[.slice x0 A.length y0, .slice x1 O.length y1, .slice none 0 0, .int .i64 0, .int .i64 0]) := Lib.hid (HT.out.set_ 1 (.slice x1 O.length y1))
  replace HW := Lib.hid (HW.out.setCell (p := ⟨w.heap.size + 1 + 1, 1, none⟩) (by show w.heap.size ≤ w.heap.size + 1 + 1; omega) (.slice x1 O.length y1))
  replace P0 := Lib.hid (ObT.set P0.out (p := ⟨w.heap.size + 1 + 1, 1, none⟩) (by show w.heap.size + 1 + 1 < _; omega) (.slice x1 O.length y1))
  replace P1 := Lib.hid (ObT.set P1.out (p := ⟨w.heap.size + 1 + 1, 1, none⟩) (by show w.heap.size + 1 + 1 < _; omega) (.slice x1 O.length y1))
  clear HT k0 j1 f1 l0 l1 l2
  have HT := HT9
  clear HT9
  generalize World.setCell w3 ⟨w.heap.size + 1 + 1, 1, none⟩ _ = w4 at *
  have k0 := HK.out.cell
  have l0 := HK.out.lt
  have l1 := HR.out.lt
  have l2 := HT.out.lt
  go_wp2_with fail
  refine (H2.out _ HW.out).mono ?_
  rintro e w5 ⟨u, rfl, ho, hb⟩
  obtain ⟨x2, y2, rfl⟩ := ho.opn
  have z2 := hb.size
  clear k0
  replace HK := Lib.hid (HK.out.below hb l0)
  replace HR := Lib.hid (HR.out.below hb l1)
  replace HT := Lib.hid (HT.out.below hb l2)
  replace HW := Lib.hid (bthen HW.out hb)
  replace P0 := Lib.hid (P0.out.below hb)
  replace P1 := Lib.hid (P1.out.below hb)
  have P2 := Lib.hid ho
  clear ho hb l0 l1 l2
  have k0 := HK.out.cell
  have j1 := HT.out.cell
  have f1 := HT.out.frozen
  have l0 := HK.out.lt
  have l1 := HR.out.lt
  have l2 := HT.out.lt
  go_upto_region 5 with fail
  have y2z : (World.setCell w5 ⟨w.heap.size + 1 + 1, 2, none⟩ (.slice x2 I.length y2)).heap.size = w5.heap.size := by simp [World.setCell]
  replace HK := Lib.hid (HK.out.far (p := ⟨w.heap.size + 1 + 1, 2, none⟩) (by show w.heap.size ≠ w.heap.size + 1 + 1; omega) (.slice x2 I.length y2))
  replace HR := Lib.hid (HR.out.far (p := ⟨w.heap.size + 1 + 1, 2, none⟩) (by show w.heap.size + 1 ≠ w.heap.size + 1 + 1; omega) (.slice x2 I.length y2))
  have HT9 : Hid (Blk _ (w.heap.size + 1 + 1) 29 #[.slice x0 A.length y0, .slice x1 O.length y1, .slice x2 I.length y2, .int .i64 0, .int .i64 0]) := Lib.hid (HT.out.set_ 2 (.slice x2 I.length y2))
  replace HW := Lib.hid (HW.out.setCell (p := ⟨w.heap.size + 1 + 1, 2, none⟩) (by show w.heap.size ≤ w.heap.size + 1 + 1; omega) (.slice x2 I.length y2))
  replace P0 := Lib.hid (ObT.set P0.out (p := ⟨w.heap.size + 1 + 1, 2, none⟩) (by show w.heap.size + 1 + 1 < _; omega) (.slice x2 I.length y2))
  replace P1 := Lib.hid (ObT.set P1.out (p := ⟨w.heap.size + 1 + 1, 2, none⟩) (by show w.heap.size + 1 + 1 < _; omega) (.slice x2 I.length y2))
  replace P2 := Lib.hid (ObT.set P2.out (p := ⟨w.heap.size + 1 + 1, 2, none⟩) (by show w.heap.size + 1 + 1 < _; omega) (.slice x2 I.length y2))
  clear HT k0 j1 f1 l0 l1 l2
  have HT := HT9
  clear HT9
  generalize World.setCell w5 ⟨w.heap.size + 1 + 1, 2, none⟩ _ = w6 at *
  have k0 := HK.out.cell
  have j1 := HT.out.cell
  have f1 := HT.out.frozen
  have r1 := HR.out.cell
  have g1 := HR.out.frozen
  have l0 := HK.out.lt
  have l1 := HR.out.lt
  have l2 := HT.out.lt
  go_wp2
  refine bodyPost_ret (v := .agg #[.slice x0 A.length y0, .slice x1 O.length y1, .slice x2 I.length y2, .int .i64 b, .int .i64 t]) (by simp [results, Try.results7, go_sem, k0, l0, r1, g1, l1, j1, f1, l2]) rfl ⟨_, _, _, w2.heap.size, w4.heap.size, rfl, by omega, by omega, by simp [World.setCell]; omega, ?_, ?_, ?_, ?_⟩
  · have h9 := ObT.mono (ObT.set (ObT.set (ObT.set (ObT.set (ObT.set (ObT.set (ObT.set P0.out (p := ⟨w.heap.size + 1 + 1, 3, none⟩) (by show w.heap.size + 1 + 1 < _; omega) (.int .i64 b)) (p := ⟨w.heap.size + 1 + 1, 4, none⟩) (by show w.heap.size + 1 + 1 < _; omega) (.int .i64 t)) (p := ⟨w.heap.size + 1, 0, none⟩) (by show w.heap.size + 1 < _; omega) (.slice x0 A.length y0)) (p := ⟨w.heap.size + 1, 1, none⟩) (by show w.heap.size + 1 < _; omega) (.slice x1 O.length y1)) (p := ⟨w.heap.size + 1, 2, none⟩) (by show w.heap.size + 1 < _; omega) (.slice x2 I.length y2)) (p := ⟨w.heap.size + 1, 3, none⟩) (by show w.heap.size + 1 < _; omega) (.int .i64 b)) (p := ⟨w.heap.size + 1, 4, none⟩) (by show w.heap.size + 1 < _; omega) (.int .i64 t)) (show w.heap.size ≤ W.heap.size by omega)
    rw [← y0z] at h9
    exact h9
  · have h9 := (ObT.set (ObT.set (ObT.set (ObT.set (ObT.set (ObT.set (ObT.set P1.out (p := ⟨w.heap.size + 1 + 1, 3, none⟩) (by show w.heap.size + 1 + 1 < _; omega) (.int .i64 b)) (p := ⟨w.heap.size + 1 + 1, 4, none⟩) (by show w.heap.size + 1 + 1 < _; omega) (.int .i64 t)) (p := ⟨w.heap.size + 1, 0, none⟩) (by show w.heap.size + 1 < _; omega) (.slice x0 A.length y0)) (p := ⟨w.heap.size + 1, 1, none⟩) (by show w.heap.size + 1 < _; omega) (.slice x1 O.length y1)) (p := ⟨w.heap.size + 1, 2, none⟩) (by show w.heap.size + 1 < _; omega) (.slice x2 I.length y2)) (p := ⟨w.heap.size + 1, 3, none⟩) (by show w.heap.size + 1 < _; omega) (.int .i64 b)) (p := ⟨w.heap.size + 1, 4, none⟩) (by show w.heap.size + 1 < _; omega) (.int .i64 t))
    rw [← y1z] at h9
    exact h9
  · have h9 := (ObT.set (ObT.set (ObT.set (ObT.set (ObT.set (ObT.set (ObT.set P2.out (p := ⟨w.heap.size + 1 + 1, 3, none⟩) (by show w.heap.size + 1 + 1 < _; omega) (.int .i64 b)) (p := ⟨w.heap.size + 1 + 1, 4, none⟩) (by show w.heap.size + 1 + 1 < _; omega) (.int .i64 t)) (p := ⟨w.heap.size + 1, 0, none⟩) (by show w.heap.size + 1 < _; omega) (.slice x0 A.length y0)) (p := ⟨w.heap.size + 1, 1, none⟩) (by show w.heap.size + 1 < _; omega) (.slice x1 O.length y1)) (p := ⟨w.heap.size + 1, 2, none⟩) (by show w.heap.size + 1 < _; omega) (.slice x2 I.length y2)) (p := ⟨w.heap.size + 1, 3, none⟩) (by show w.heap.size + 1 < _; omega) (.int .i64 b)) (p := ⟨w.heap.size + 1, 4, none⟩) (by show w.heap.size + 1 < _; omega) (.int .i64 t))
    have e9 : w5.heap.size = (World.setCell (World.setCell (World.setCell (World.setCell (World.setCell (World.setCell (World.setCell w6 ⟨w.heap.size + 1 + 1, 3, none⟩ (.int .i64 b)) ⟨w.heap.size + 1 + 1, 4, none⟩ (.int .i64 t)) ⟨w.heap.size + 1, 0, none⟩ (.slice x0 A.length y0)) ⟨w.heap.size + 1, 1, none⟩ (.slice x1 O.length y1)) ⟨w.heap.size + 1, 2, none⟩ (.slice x2 I.length y2)) ⟨w.heap.size + 1, 3, none⟩ (.int .i64 b)) ⟨w.heap.size + 1, 4, none⟩ (.int .i64 t)).heap.size := by rw [← y2z]; simp [World.setCell]
    rw [e9] at h9
    exact h9
  · exact (((((((HW.out.setCell (p := ⟨w.heap.size + 1 + 1, 3, none⟩) (by show w.heap.size ≤ w.heap.size + 1 + 1; omega) (.int .i64 b)).setCell (p := ⟨w.heap.size + 1 + 1, 4, none⟩) (by show w.heap.size ≤ w.heap.size + 1 + 1; omega) (.int .i64 t)).setCell (p := ⟨w.heap.size + 1, 0, none⟩) (by show w.heap.size ≤ w.heap.size + 1; omega) (.slice x0 A.length y0)).setCell (p := ⟨w.heap.size + 1, 1, none⟩) (by show w.heap.size ≤ w.heap.size + 1; omega) (.slice x1 O.length y1)).setCell (p := ⟨w.heap.size + 1, 2, none⟩) (by show w.heap.size ≤ w.heap.size + 1; omega) (.slice x2 I.length y2)).setCell (p := ⟨w.heap.size + 1, 3, none⟩) (by show w.heap.size ≤ w.heap.size + 1; omega) (.int .i64 b)).setCell (p := ⟨w.heap.size + 1, 4, none⟩) (by show w.heap.size ≤ w.heap.size + 1; omega) (.int .i64 t))
/- Tables of the call's own whose rows lie in blocks apart from each other; the laws' marks on them; Heyting algebras made of them. -/
/-- a table in blocks from lo below hi: the row of headers, and rows apart from it and from each other -/
def ObS (lo hi : Nat) (w : World) (v : Value) (xss : List (List Int)) : Prop :=
  ∃ hs : List Hd, Ow cH 26 lo w v hs ∧ hs.length = xss.length ∧ (∀ k, v.ownBlock = some k → k < hi) ∧
    (∀ i (a : i < hs.length) (b : i < xss.length), Ow cI 2 lo w hs[i].val xss[i] ∧ ∀ k, hs[i].val.ownBlock = some k → k < hi ∧ v.ownBlock ≠ some k) ∧
    ∀ i j (a : i < hs.length) (b : j < hs.length), i ≠ j → ∀ k, hs[i].val.ownBlock = some k → hs[j].val.ownBlock ≠ some k
section
variable {lo hi : Nat} {w w' : World} {v : Value} {xss : List (List Int)}
theorem ObS.sl (h : ObS lo hi w v xss) : Sl2 cI w v xss := by
  obtain ⟨hs, h1, h2, -, h3, -⟩ := h
  exact ⟨hs, h1.sl, h2, fun i a b => (h3 i a b).1.sl⟩
theorem ObS.opn (h : ObS lo hi w v xss) : ∃ A c, v = .slice A xss.length c := h.sl.opn
theorem ObS.below (h : ObS lo hi w v xss) (hb : Below w.heap.size w w') : ObS lo hi w' v xss := by
  obtain ⟨hs, h1, h2, h3, h4, h5⟩ := h
  exact ⟨hs, h1.below hb, h2, h3, fun i a b => ⟨(h4 i a b).1.below hb, (h4 i a b).2⟩, h5⟩
theorem ObS.wide {lo' hi' : Nat} (h : ObS lo hi w v xss) (hl : lo' ≤ lo) (hh : hi ≤ hi') : ObS lo' hi' w v xss := by
  obtain ⟨hs, h1, h2, h3, h4, h5⟩ := h
  exact ⟨hs, h1.mono hl, h2, fun k e => Nat.lt_of_lt_of_le (h3 k e) hh, fun i a b => ⟨(h4 i a b).1.mono hl, fun k e => ⟨Nat.lt_of_lt_of_le ((h4 i a b).2 k e).1 hh, ((h4 i a b).2 k e).2⟩⟩, h5⟩
theorem ObS.keep {B' H' : Nat} (h : ObS lo hi w v xss) (k : Keep B' H' w w') (hd : hi ≤ B' ∨ H' ≤ lo) : ObS lo hi w' v xss := by
  obtain ⟨hs, h1, h2, h3, h4, h5⟩ := h
  have e1 : Ob cH 26 lo hi w v hs := ⟨h1, h3⟩
  refine ⟨hs, (e1.keep k hd).1, h2, h3, fun i a b => ?_, h5⟩
  have e2 : Ob cI 2 lo hi w hs[i].val xss[i] := ⟨(h4 i a b).1, fun k e => ((h4 i a b).2 k e).1⟩
  exact ⟨(e2.keep k hd).1, (h4 i a b).2⟩
theorem ObS.setBelow (h : ObS lo hi w v xss) {p : Addr} (hp : p.block < lo) (u : Value) : ObS lo hi (w.setCell p u) v xss := by
  obtain ⟨hs, h1, h2, h3, h4, h5⟩ := h
  exact ⟨hs, h1.setBelow hp u, h2, h3, fun i a b => ⟨(h4 i a b).1.setBelow hp u, (h4 i a b).2⟩, h5⟩
theorem ObS.grown {row : Option Nat} (h : ObS lo hi w v xss) (hg : w.grownBy w' row) (hr : ∀ k, row = some k → k < lo ∨ hi ≤ k) : ObS lo hi w' v xss := by
  obtain ⟨hs, h1, h2, h3, h4, h5⟩ := h
  have key : ∀ u : Value, (∀ k, u.ownBlock = some k → lo ≤ k ∧ k < hi) → u.ownBlock = none ∨ u.ownBlock ≠ row := fun u hu => by
    cases hq : u.ownBlock with
    | none => exact .inl rfl
    | some k => exact .inr fun e => by have := hr k e.symm; have := hu k hq; omega
  exact ⟨hs, h1.kept hg (key _ fun k e => ⟨(h1.block k e).1, h3 k e⟩), h2, h3, fun i a b => ⟨(h4 i a b).1.kept hg (key _ fun k e => ⟨((h4 i a b).1.block k e).1, ((h4 i a b).2 k e).1⟩), (h4 i a b).2⟩, h5⟩
theorem ObS.nil (lo hi : Nat) (w : World) : ObS lo hi w (.slice none 0 0) [] := ⟨[], Ow.nil _ _, rfl, (fun k e => (by cases e)), (fun i a => (by simp at a)), fun i j a => (by simp at a)⟩
/-- a row is put to a table, in place -/
theorem ObS.push {hi : Nat} (h : ObS lo hi w v xss) (hw : hi ≤ w.heap.size) {A : Option Addr} {n c : Nat} {row : List Int} (hu : Ow cI 2 lo w (.slice A n c) row) (hk : ∀ k, (Value.slice A n c).ownBlock = some k → hi ≤ k) :
    ∃ hs : List Hd, Ow cH 26 lo w v hs ∧ hs.length = xss.length ∧ (∀ k, v.ownBlock = some k → lo ≤ k ∧ k < hi) ∧ ∀ w' v', Ow cH 26 lo w' v' (hs ++ [⟨A, n, c⟩]) → w.grownBy w' v.ownBlock → (v'.ownBlock = v.ownBlock ∨ ∃ j, w.heap.size ≤ j ∧ v'.ownBlock = some j) →
      ObS lo w'.heap.size w' v' (xss ++ [row]) := by
  obtain ⟨hs, h1, h2, h3, h4, h5⟩ := h
  refine ⟨hs, h1, h2, fun k e => ⟨(h1.block k e).1, h3 k e⟩, fun w' v' ho hg hat => ?_⟩
  have hz := hg.size
  have key : ∀ (u : Value) (ys : List Int), Ow cI 2 lo w u ys → (∀ k, u.ownBlock = some k → v.ownBlock ≠ some k) →
      Ow cI 2 lo w' u ys ∧ ∀ k, u.ownBlock = some k → k < w'.heap.size ∧ v'.ownBlock ≠ some k := by
    intro u ys hu hk
    refine ⟨hu.kept hg ?_, fun k e => ⟨Nat.lt_of_lt_of_le (hu.block k e).2 hz, fun e3 => ?_⟩⟩
    · cases hq : u.ownBlock with
      | none => exact .inl rfl
      | some k => exact .inr fun e => hk k hq e.symm
    · rcases hat with e2 | ⟨j, hj, e2⟩
      · exact hk k e (e2 ▸ e3)
      · rw [e2] at e3; injection e3 with e3; have := (hu.block k e).2; omega
  have hnew : ∀ k, (Value.slice A n c).ownBlock = some k → v.ownBlock ≠ some k := fun k e e2 => by have := hk k e; have := h3 k e2; omega
  have e3 : (hs ++ [(⟨A, n, c⟩ : Hd)])[hs.length]'(by simp) = ⟨A, n, c⟩ := by simp
  refine ⟨_, ho, by simp [h2], fun k e => (ho.block k e).2, fun i a b => ?_, fun i j a b hij k e => ?_⟩
  · by_cases hi : i < hs.length
    · rw [List.getElem_append_left hi, List.getElem_append_left (by omega)]
      exact key _ _ (h4 i hi (by omega)).1 fun k e => ((h4 i hi (by omega)).2 k e).2
    · have e : i = hs.length := by simp at a; omega
      subst e
      have e2 : (xss ++ [row])[hs.length] = row := by
        rw [List.getElem_append_right (by omega)]; simp [h2]
      rw [e2, e3]
      exact key (.slice A n c) _ hu hnew
  · simp only [List.length_append, List.length_singleton] at a b
    by_cases hi' : i < hs.length
    · rw [List.getElem_append_left hi'] at e
      by_cases hj : j < hs.length
      · rw [List.getElem_append_left hj]
        exact h5 i j hi' hj hij k e
      · have ej : j = hs.length := by omega
        subst ej
        rw [e3]
        intro e9
        have := hk k e9
        have := ((h4 i hi' (by omega)).2 k e).1
        omega
    · have ei : i = hs.length := by omega
      subst ei
      rw [e3] at e
      have hj : j < hs.length := by omega
      rw [List.getElem_append_left hj]
      intro e9
      have := hk k e
      have := ((h4 j hj (by omega)).2 k e9).1
      omega
/-- a row is put to a table, its row of headers in a new block -/
theorem ObS.more {hi : Nat} {v' : Value} {hs : List Hd} {A : Option Addr} {n c : Nat} {row : List Int}
    (h2 : hs.length = xss.length) (h4 : ∀ i (a : i < hs.length) (b : i < xss.length), Ow cI 2 lo w hs[i].val xss[i] ∧ ∀ k, hs[i].val.ownBlock = some k → k < hi)
    (h5 : ∀ i j (a : i < hs.length) (b : j < hs.length), i ≠ j → ∀ k, hs[i].val.ownBlock = some k → hs[j].val.ownBlock ≠ some k)
    (hu : Ow cI 2 lo w (.slice A n c) row) (hk : ∀ k, (Value.slice A n c).ownBlock = some k → hi ≤ k)
    (ho : Ow cH 26 lo w' v' (hs ++ [⟨A, n, c⟩])) (hb : Below w.heap.size w w') (hv : ∀ k, v'.ownBlock = some k → w.heap.size ≤ k) : ObS lo w'.heap.size w' v' (xss ++ [row]) := by
  have hz := hb.size
  have key : ∀ (u : Value) (ys : List Int), Ow cI 2 lo w u ys → Ow cI 2 lo w' u ys ∧ ∀ k, u.ownBlock = some k → k < w'.heap.size ∧ v'.ownBlock ≠ some k := by
    intro u ys hu
    exact ⟨hu.below hb, fun k e => ⟨Nat.lt_of_lt_of_le (hu.block k e).2 hz, fun e3 => by have := hv k e3; have := (hu.block k e).2; omega⟩⟩
  have e3 : (hs ++ [(⟨A, n, c⟩ : Hd)])[hs.length]'(by simp) = ⟨A, n, c⟩ := by simp
  refine ⟨_, ho, by simp [h2], fun k e => (ho.block k e).2, fun i a b => ?_, fun i j a b hij k e => ?_⟩
  · by_cases hi : i < hs.length
    · rw [List.getElem_append_left hi, List.getElem_append_left (by omega)]
      exact key _ _ (h4 i hi (by omega)).1
    · have e : i = hs.length := by simp at a; omega
      subst e
      have e2 : (xss ++ [row])[hs.length] = row := by
        rw [List.getElem_append_right (by omega)]; simp [h2]
      rw [e2, e3]
      exact key (.slice A n c) _ hu
  · simp only [List.length_append, List.length_singleton] at a b
    by_cases hi' : i < hs.length
    · rw [List.getElem_append_left hi'] at e
      by_cases hj : j < hs.length
      · rw [List.getElem_append_left hj]
        exact h5 i j hi' hj hij k e
      · have ej : j = hs.length := by omega
        subst ej
        rw [e3]
        intro e9
        have := hk k e9
        have := (h4 i hi' (by omega)).2 k e
        omega
    · have ei : i = hs.length := by omega
      subst ei
      rw [e3] at e
      have hj : j < hs.length := by omega
      rw [List.getElem_append_left hj]
      intro e9
      have := hk k e
      have := (h4 j hj (by omega)).2 k e9
      omega
end
theorem u_mark_SSIS (v : Value) (xss : List (List Int)) (k : Int) (B H : Nat) (w : World) (h : ObS B H w v xss) (hl : totI xss ≤ 33554432) (hk : 0 ≤ k ∧ k ≤ 134217728) :
    Calls Try.prog 24 #[v, .int .i64 k] w fun e w' => e = .returned (.int .i64 (k + sumLI xss)) ∧ ObS B H w' v (numLL xss k) ∧ Keep B H w w' := by
  obtain ⟨A, c, rfl⟩ := h.opn
  obtain ⟨hs, h1, h2, h3, h4, h5⟩ := h
  have hT : totI xss = xss.length + sumLI xss := rfl
  have hln : xss.length ≤ 33554432 := by omega
  have HG := Lib.hid (fun j (h : j < xss.length) => sumLI_get xss j h)
  have HS := Lib.hid (fun j (h : j < xss.length) => sumLI_succ xss j h)
  have HK := Lib.hid (fun j => sumLI_take xss j)
  have HT : Hid (sumLI xss ≤ 33554432) := Lib.hid (by omega)
  have HSl : Hid (∀ X, Ow cH 26 B X (.slice A xss.length c) hs → Sl cH X (.slice A hs.length c) hs) := Lib.hid (fun X hX => by rw [h2]; exact hX.sl)
  have H2 := Lib.hid h2
  have H3 := Lib.hid h3
  have H5 := Lib.hid h5
  have H40 := Lib.hid (fun i a b => (h4 i a b).1)
  have H41 := Lib.hid (fun i a b => (h4 i a b).2)
  have H10 := Lib.hid h1
  have HNG := Lib.hid (fun i (q : i < xss.length) => numLL_get xss k i (by rw [numLL_length]; exact q) q)
  clear hT hl h4 h5 h2 h1 h3
  go_enter Try.func24, Try.ntmps24
  go_wp2
  go_loopw [1, 5] (fun q i wr => ∃ j : Nat, j ≤ xss.length ∧ i = .int .i64 j ∧ q = .int .i64 (k + sumLI (xss.take j)) ∧ Ow cH 26 B wr (.slice A xss.length c) hs ∧ (∀ i (p : i < hs.length) (q : i < xss.length), j ≤ i → Ow cI 2 B wr hs[i].val xss[i]) ∧ (∀ i (p : i < hs.length) (q : i < xss.length), i < j → Ow cI 2 B wr hs[i].val (numL (xss[i]).length (k + sumLI (xss.take i)))) ∧ Keep B H w wr) (fun _ i _ => xss.length - (intOf i).toNat)
  case atStart => exact ⟨0, Nat.zero_le _, rfl, by simp [sumLI], H10.out, fun i p q _ => H40.out i p q, fun i p q hi => absurd hi (Nat.not_lt_zero _), Keep.of_below (Below.refl _ _)⟩
  case round =>
    obtain ⟨j, hj, rfl, rfl, ho, hin, hdn, hkp⟩ := hrel
    have HO := Lib.hid ho
    have HI := Lib.hid hin
    have HD := Lib.hid hdn
    have HKP := Lib.hid hkp
    by_cases hlt : j < xss.length
    · have hjl : j < hs.length := by rw [H2.out]; exact hlt
      obtain ⟨bb, oo, rfl, hbb, hcc⟩ := (HSl.out _ ho).cell (k := j) hjl
      have hc0 := hcc 0 _ (show (cH.cells hs[j])[0]? = some hs[j].val from rfl)
      have hoj := hin j hjl hlt (Nat.le_refl _)
      obtain ⟨Aj, cj, hvj⟩ := hoj.opn
      have HVJ := Lib.hid hvj
      have HOB := Lib.hid (fun k e => (⟨(hoj.block k e).1, (H41.out j hjl hlt k e).1⟩ : B ≤ k ∧ k < H))
      have HNE := Lib.hid (fun k e => (H41.out j hjl hlt k e).2)
      have HDJ := Lib.hid (fun i (a : i < hs.length) (hij : i ≠ j) k e => H5.out i j a hjl hij k e)
      rw [hvj] at hc0 hoj HOB HNE HDJ
      simp only [show cH.size = 1 from rfl, Nat.mul_one, Nat.add_zero] at hc0
      obtain ⟨y, hy⟩ : ∃ y : Nat, sumLI (xss.take j) = y := ⟨_, rfl⟩
      obtain ⟨m, hm⟩ : ∃ m : Nat, (xss[j]'hlt).length = m := ⟨_, rfl⟩
      have hyl : y ≤ 33554432 := by rw [← hy]; have := HK.out j; have := HT.out; omega
      have hml : m ≤ 33554432 := by rw [← hm]; have := HG.out j hlt; have := HT.out; omega
      have HC := Lib.hid (mark_int64S _ _ (k + (y : Int)) B wr hoj (by rw [hm]; omega) (by omega))
      have HSU : Hid (sumLI (xss.take (j + 1)) = y + m) := Lib.hid (by rw [HS.out j hlt, hy, hm])
      rw [hm] at hc0 HC HOB HNE HDJ
      rw [hy]
      have HM := Lib.hid hm
      have HY := Lib.hid hy
      clear ho hin hdn hkp hcc hoj hy hm hvj
      go_wp2_with fail
      refine HC.out.mono ?_
      rintro e w2 ⟨rfl, ho2, hg⟩
      have Z1 := Lib.hid (HO.out.kept hg (by
        cases hq : (Value.slice (some ⟨bb, oo, none⟩) xss.length c).ownBlock with
        | none => exact .inl rfl
        | some k => exact .inr fun e => HNE.out k e.symm hq))
      have KK : ∀ (u : Value) (ys : List Int), Ow cI 2 B wr u ys → (∀ k, u.ownBlock = some k → (Value.slice Aj m cj).ownBlock ≠ some k) → Ow cI 2 B w2 u ys := fun u ys hu hne => hu.kept hg (by
        cases hq : u.ownBlock with
        | none => exact .inl rfl
        | some k => exact .inr fun e => hne k hq e.symm)
      have Z2 : Hid (∀ i (p : i < hs.length) (q : i < xss.length), j + 1 ≤ i → Ow cI 2 B w2 hs[i].val xss[i]) := Lib.hid (fun i p q hi => KK _ _ (HI.out i p q (by omega)) (HDJ.out i p (by omega)))
      have Z4 : Hid (∀ i (p : i < hs.length) (q : i < xss.length), i < j + 1 → Ow cI 2 B w2 hs[i].val (numL (xss[i]).length (k + sumLI (xss.take i)))) := Lib.hid (fun i p q hi => by
        rcases Nat.lt_or_ge i j with h9 | h9
        · exact KK _ _ (HD.out i p q h9) (HDJ.out i p (by omega))
        · obtain rfl : i = j := by omega
          rw [HVJ.out, HM.out, HY.out]
          exact ho2)
      have Z3 := Lib.hid (HKP.out.trans (Keep.of_grown hg fun k e => HOB.out k e))
      clear ho2 hg hc0 KK
      go_wp2
      go_roundw
      case rel => exact ⟨j + 1, by omega, by go_num, by rw [HSU.out]; go_num, Z1.out, Z2.out, Z4.out, Z3.out⟩
      case measure => simp [intOf]; omega
    · obtain rfl : j = xss.length := by omega
      have e1 : xss.take xss.length = xss := List.take_length
      rw [e1]
      clear e1 ho hin hdn hkp HI
      go_wp2
      go_ret
      exact ⟨rfl, ⟨hs, HO.out, by rw [H2.out, numLL_length], H3.out, fun i p q => by
        have q' : i < xss.length := by rw [numLL_length] at q; exact q
        rw [HNG.out i q']; exact ⟨HD.out i p q' q', H41.out i p q'⟩, H5.out⟩, HKP.out⟩
theorem u_mark_HeytingS (v0 : Value) (A : List (List Int)) (v1 : Value) (O : List (List Int)) (v2 : Value) (I : List (List Int)) (b t : Int) (k : Int) (B H1 H2 H3 : Nat) (w : World) (h0 : ObS B H1 w v0 A) (h1 : ObS H1 H2 w v1 O) (h2 : ObS H2 H3 w v2 I) (hs : B ≤ H1 ∧ H1 ≤ H2 ∧ H2 ≤ H3 ∧ H3 ≤ w.heap.size) (hl : totI A + totI O + totI I ≤ 33554432) (hk : 0 ≤ k ∧ k ≤ 16777216) :
    Calls Try.prog 11 #[.agg #[v0, v1, v2, .int .i64 b, .int .i64 t], .int .i64 k] w fun e w' => e = .returned (.int .i64 (k + sumLI A + sumLI O + sumLI I)) ∧ ObS B H1 w' v0 (numLL A k) ∧ ObS H1 H2 w' v1 (numLL O (k + sumLI A)) ∧ ObS H2 H3 w' v2 (numLL I (k + sumLI A + sumLI O)) ∧ Keep B H3 w w' := by
  have hb0 := below_alloc' w (.cells #[v0, v1, v2, .int .i64 b, .int .i64 t] 29)
  have hk0 := Blk.new w 29 #[v0, v1, v2, .int .i64 b, .int .i64 t]
  have s0 := sumLI_tot A
  have s1 := sumLI_tot O
  have s2 := sumLI_tot I
  have HK0 := Lib.hid hk0
  have A0 := Lib.hid (h0.below hb0)
  have A1 := Lib.hid (h1.below hb0)
  have A2 := Lib.hid (h2.below hb0)
  have KP0 := Lib.hid (Keep.of_below (B := B) (H := H3) hb0)
  obtain ⟨hs1, hs2, hs3, hs4⟩ := hs
  clear h0 h1 h2 hb0 hk0
  go_enter Try.func11, Try.ntmps11
  go_upto_region 1 with fail
  generalize World.alloc w _ = W at *
  have k0 := HK0.out.cell
  have l0 := HK0.out.lt
  go_wp2_with fail
  refine (u_mark_SSIS v0 A (k) B H1 _ A0.out (by omega) (by omega)).mono ?_
  rintro e w1 ⟨rfl, ho, hkp⟩
  have HK1 : Hid (Blk w1 w.heap.size 29 #[v0, v1, v2, .int .i64 b, .int .i64 t]) := Lib.hid ((hkp.block _ l0 (.inr (by omega))).trans HK0.out)
  have N0 := Lib.hid ho
  replace A1 := Lib.hid (A1.out.keep hkp (.inr (by omega)))
  replace A2 := Lib.hid (A2.out.keep hkp (.inr (by omega)))
  have KP1 := Lib.hid (KP0.out.trans (hkp.mono (by omega) (by omega)))
  clear k0 l0 ho hkp
  have k0 := HK1.out.cell
  have l0 := HK1.out.lt
  go_wp2_with fail
  refine (u_mark_SSIS v1 O (k + sumLI A) H1 H2 _ A1.out (by omega) (by omega)).mono ?_
  rintro e w2 ⟨rfl, ho, hkp⟩
  have HK2 : Hid (Blk w2 w.heap.size 29 #[v0, v1, v2, .int .i64 b, .int .i64 t]) := Lib.hid ((hkp.block _ l0 (.inr (by omega))).trans HK1.out)
  have N1 := Lib.hid ho
  replace N0 := Lib.hid (N0.out.keep hkp (.inl (by omega)))
  replace A2 := Lib.hid (A2.out.keep hkp (.inr (by omega)))
  have KP2 := Lib.hid (KP1.out.trans (hkp.mono (by omega) (by omega)))
  clear k0 l0 ho hkp
  have k0 := HK2.out.cell
  have l0 := HK2.out.lt
  go_wp2_with fail
  refine (u_mark_SSIS v2 I (k + sumLI A + sumLI O) H2 H3 _ A2.out (by omega) (by omega)).mono ?_
  rintro e w3 ⟨rfl, ho, hkp⟩
  have HK3 : Hid (Blk w3 w.heap.size 29 #[v0, v1, v2, .int .i64 b, .int .i64 t]) := Lib.hid ((hkp.block _ l0 (.inr (by omega))).trans HK2.out)
  have N2 := Lib.hid ho
  replace N0 := Lib.hid (N0.out.keep hkp (.inl (by omega)))
  replace N1 := Lib.hid (N1.out.keep hkp (.inl (by omega)))
  have KP3 := Lib.hid (KP2.out.trans (hkp.mono (by omega) (by omega)))
  clear k0 l0 ho hkp
  go_wp2
  go_ret
  exact ⟨rfl, N0.out, N1.out, N2.out, KP3.out⟩
end Go.Proofs.Ytkllbehdmlbhaaa

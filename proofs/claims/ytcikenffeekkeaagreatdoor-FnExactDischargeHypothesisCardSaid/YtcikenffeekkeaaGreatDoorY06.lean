/- The laws' own functions on lists of lists of nodes in the one form, and such an argument opened. -/
import Derived.Test.YtcikenffeekkeaaGreatDoorY04
import Derived.Test.YtcikenffeekkeaaGreatDoorY05
import Derived.StillTailTactics
namespace Go.Proofs.YtcikenffeekkeaaGreatDoor
open Go.RowKit
set_option linter.unusedVariables false
set_option linter.unusedSimpArgs false
/-- the lengths of lists, summed -/
def sumL : List (List Nd) → Nat
  | [] => 0
  | x :: xs => x.length + sumL xs
theorem sumL_snoc (xs : List (List Nd)) (x : List Nd) : sumL (xs ++ [x]) = sumL xs + x.length := by
  induction xs with
  | nil => simp [sumL]
  | cons y ys ih => simp only [List.cons_append, sumL, ih]; omega
theorem sumL_succ (xs : List (List Nd)) (k : Nat) (h : k < xs.length) : sumL (xs.take (k + 1)) = sumL (xs.take k) + (xs[k]'h).length := by
  rw [List.take_succ_eq_append_getElem h, sumL_snoc]
theorem sumL_take (xs : List (List Nd)) (k : Nat) : sumL (xs.take k) ≤ sumL xs := by
  induction xs generalizing k with
  | nil => simp
  | cons y ys ih =>
    cases k with
    | zero => simp [sumL]
    | succ k => simp only [List.take_succ_cons, sumL]; have := ih k; omega
theorem sumL_get (xs : List (List Nd)) (k : Nat) (h : k < xs.length) : (xs[k]'h).length ≤ sumL xs := by
  have h1 := sumL_succ xs k h
  have h2 := sumL_take xs (k + 1)
  omega
/-- what a list of lists counts -/
def tot (xs : List (List Nd)) : Nat := xs.length + sumL xs
theorem sumL_tot (xs : List (List Nd)) : sumL xs ≤ tot xs := by unfold tot; omega
theorem Sl.drewN' {α : Type} {K : Cod α} {w : World} {v : Value} {xs : List α} (h : Sl K w v xs) (q : Nat) : Sl K (w.drewN q) v xs := h
theorem Sl2.atM {w : World} {A : Option Addr} {n c : Nat} {xss : List (List Nd)} (h : Sl2 cN w (.slice A n c) xss) {k : Nat} (hk : k < xss.length) :
    ∃ b o Ai ci, A = some ⟨b, o, none⟩ ∧ b < w.heap.size ∧ w.cell? ⟨b, o + k, none⟩ = some (.slice Ai (xss[k]'hk).length ci) ∧ Sl cN w (.slice Ai (xss[k]'hk).length ci) (xss[k]'hk) := by
  obtain ⟨b, o, Ai, ni, ci, hA, hb, hc, hs⟩ := h.at_ hk
  obtain ⟨A', c', hv⟩ := hs.opn
  injection hv with _ hn _
  subst hn
  exact ⟨b, o, Ai, ci, hA, hb, hc, hs⟩
theorem u_sz_SSN (v : Value) (xss : List (List Nd)) (l : Int) (w : World) (h : Sl2 cN w v xss) (hl : -1 ≤ l ∧ l ≤ 1048576) :
    Calls Tryz.prog 4 #[v, .int .i64 l] w fun e w' => e = .returned (.int .i64 (szL l (tot xss))) ∧ Below w.heap.size w w' := by
  have hlen : xss.length ≤ 9223372036854775807 := by
    obtain ⟨hs, ⟨A', c', h1, h2, h3, -⟩, h4, -⟩ := h
    omega
  obtain ⟨A, c, rfl⟩ := h.opn
  by_cases hn : l - xss.length < 0
  · have hz : szL l (tot xss) = -1 := szL_neg (by unfold tot; omega)
    rw [hz]
    clear hz h
    go_enter Tryz.func4, Tryz.ntmps4
    go_wp2
    go_ret
    exact ⟨rfl, Below.refl _ _⟩
  · have H := Lib.hid h
    have hT : tot xss = xss.length + sumL xss := rfl
    have HT := Lib.hid hT
    have hln : xss.length ≤ 1048576 := by omega
    have hn' : decide (l - (xss.length : Int) < 0) = false := decide_eq_false hn
    have e2 : 0 ≤ l - xss.length - sumL xss → szL l (tot xss) = l - xss.length - sumL xss := fun hh => by rw [szL_pos (show ¬ l - ((tot xss : Nat) : Int) < 0 by rw [hT]; omega), hT]; omega
    have E2 := Lib.hid e2
    clear h hT e2
    go_enter Tryz.func4, Tryz.ntmps4
    go_wp2
    go_loop [1, 5] (fun q i => ∃ j : Nat, j ≤ xss.length ∧ i = .int .i64 j ∧ q = .int .i64 (l - xss.length - sumL (xss.take j)) ∧ 0 ≤ l - xss.length - sumL (xss.take j)) (fun _ i => xss.length - (intOf i).toNat)
    case atStart => exact ⟨0, Nat.zero_le _, rfl, by simp [sumL], by simp [sumL]; omega⟩
    case round =>
      obtain ⟨j, hj, rfl, rfl, hge⟩ := hrel
      by_cases hlt : j < xss.length
      · obtain ⟨b, o, Ai, ci, rfl, hb, hc, hs⟩ := H.out.atM hlt
        have hsu := sumL_succ xss j hlt
        have hsl := sumL_take xss (j + 1)
        obtain ⟨y, hy⟩ : ∃ y : Nat, sumL (xss.take j) = y := ⟨_, rfl⟩
        obtain ⟨m, hm⟩ : ∃ m : Nat, (xss[j]'hlt).length = m := ⟨_, rfl⟩
        have hcon := Lib.hid (sz_nodeS _ _ (l - xss.length - (y : Int)) w hs (by omega))
        rw [hm] at hc hcon
        rw [hy] at hge ⊢
        have HS : Hid (sumL (xss.take (j + 1)) = y + m) := Lib.hid (by rw [hsu, hy, hm])
        have HL : Hid (y + m ≤ sumL xss) := Lib.hid (by rw [← hy, ← hm, ← hsu]; exact hsl)
        clear hsu hsl hy hs
        by_cases hq : l - xss.length - (y : Int) - m < 0
        · have hz : szL (l - xss.length - (y : Int)) m = -1 := szL_neg hq
          rw [hz] at hcon
          go_wp2_with fail
          refine hcon.out.mono ?_
          rintro e w1 ⟨rfl, rfl⟩
          go_wp2
          go_ret
          have e3 : szL l (tot xss) = -1 := szL_neg (by rw [HT.out]; have := HL.out; omega)
          exact ⟨by rw [e3]; rfl, Below.refl _ _⟩
        · have hz : szL (l - xss.length - (y : Int)) m = l - xss.length - (y : Int) - m := szL_pos hq
          rw [hz] at hcon
          have hq' : decide (l - (xss.length : Int) - (y : Int) - (m : Int) < 0) = false := decide_eq_false hq
          go_wp2_with fail
          refine hcon.out.mono ?_
          rintro e w1 ⟨rfl, rfl⟩
          go_wp2
          go_round
          case rel => exact ⟨j + 1, by omega, by go_num, by rw [HS.out]; go_num, by rw [HS.out]; omega⟩
          case measure => simp [intOf]; omega
      · obtain rfl : j = xss.length := by omega
        have e1 : xss.take xss.length = xss := List.take_length
        rw [e1] at hge ⊢
        clear e1
        go_wp2
        go_ret
        exact ⟨by rw [E2.out hge]; rfl, Below.refl _ _⟩
theorem ty_nodess : Ty Tryz.prog 29 44 (.slice none 0 0) 1 24 := Ty.mk' Tryz.underlying29 (by kernel_rfl) rfl (by decide)
/-- lists of nodes of the call's own, made one behind the other: their headers from B on, each list below H -/
def Ob2 (B H : Nat) (w : World) (v : Value) (xss : List (List Nd)) : Prop :=
  ∃ (hs : List Hd) (b : Nat → Nat), Ob cH 44 B (b 0) w v hs ∧ hs.length = xss.length ∧ B ≤ b 0 ∧ (∀ i, b i ≤ b (i + 1)) ∧ (∀ i, b i ≤ H) ∧
    ∀ i (p : i < hs.length) (q : i < xss.length), Ob cN 75 (b i) (b (i + 1)) w hs[i].val xss[i]
section
variable {B H : Nat} {w w' : World} {v : Value} {xss : List (List Nd)}
theorem Ob2.sl (h : Ob2 B H w v xss) : Sl2 cN w v xss := by
  obtain ⟨hs, b, h1, h2, -, -, -, h3⟩ := h
  exact ⟨hs, h1.sl, h2, fun i p q => (h3 i p q).sl⟩
theorem Ob2.opn (h : Ob2 B H w v xss) : ∃ A c, v = .slice A xss.length c := h.sl.opn
theorem mono_of {b : Nat → Nat} (h : ∀ i, b i ≤ b (i + 1)) {i j : Nat} (hij : i ≤ j) : b i ≤ b j := by
  induction hij with
  | refl => exact Nat.le_refl _
  | step _ ih => exact Nat.le_trans ih (h _)
theorem Ob2.below (h : Ob2 B H w v xss) (hb : Below w.heap.size w w') : Ob2 B H w' v xss := by
  obtain ⟨hs, b, h1, h2, h3, h4, h5, h6⟩ := h
  exact ⟨hs, b, h1.below hb, h2, h3, h4, h5, fun i p q => (h6 i p q).below hb⟩
theorem Ob2.keep {B' H' : Nat} (h : Ob2 B H w v xss) (k : Keep B' H' w w') (hd : H ≤ B' ∨ H' ≤ B) : Ob2 B H w' v xss := by
  obtain ⟨hs, b, h1, h2, h3, h4, h5, h6⟩ := h
  have e0 := h5 0
  refine ⟨hs, b, h1.keep k (by omega), h2, h3, h4, h5, fun i p q => (h6 i p q).keep k ?_⟩
  have e1 := h5 (i + 1)
  have e2 := mono_of h4 (Nat.zero_le i)
  omega
end
set_option maxRecDepth 100000 in
theorem u_eq_SSN (v u : Value) (xss : List (List Nd)) (w : World) (hx : Sl2 cN w v xss) (hy : Sl2 cN w u xss) (hn : tot xss ≤ 268435456) :
    Calls Tryz.prog 11 #[v, u] w fun e w' => e = .returned (.bool true) ∧ Below w.heap.size w w' := by
  obtain ⟨A, c, rfl⟩ := hx.opn
  obtain ⟨B, d, rfl⟩ := hy.opn
  have hT : tot xss = xss.length + sumL xss := rfl
  have hln : xss.length ≤ 268435456 := by omega
  have HG := Lib.hid (fun j (h : j < xss.length) => sumL_get xss j h)
  have HT : Hid (sumL xss ≤ 268435456) := Lib.hid (by omega)
  clear hT hn
  go_enter Tryz.func11, Tryz.ntmps11
  go_wp2
  go_loopw [5] (fun i wr => ∃ j : Nat, j ≤ xss.length ∧ i = .int .i64 j ∧ Below w.heap.size w wr) (fun i _ => xss.length - (intOf i).toNat)
  case atStart => exact ⟨0, Nat.zero_le _, rfl, Below.refl _ _⟩
  case round =>
    obtain ⟨j, hj, rfl, hb⟩ := hrel
    by_cases hlt : j < xss.length
    · obtain ⟨b, o, Ai, ci, rfl, hbl, hc0, hs⟩ := (hx.below hb).atM hlt
      obtain ⟨b', o', Ai', ci', rfl, hbl', hc0', hs'⟩ := (hy.below hb).atM hlt
      have HB := Lib.hid hb
      have HC := Lib.hid (fun X (hX : Below wr.heap.size wr X) => eq_nodeS _ _ _ X (hs.below hX) (hs'.below hX) (by have := HG.out j hlt; have := HT.out; omega))
      obtain ⟨m, hm⟩ : ∃ m : Nat, (xss[j]'hlt).length = m := ⟨_, rfl⟩
      rw [hm] at hc0 hc0' HC
      clear hb hs hs' hm
      go_wp2
      go_still_tail 8, (by kernel_rfl)
      change wpList _ _ _ _ _ wr.drew
      have HD : Hid (Below wr.heap.size wr wr.drew) := Lib.hid (Below.refl _ _).drew
      clear hc0 hc0'
      generalize wr.drew = w2 at *
      go_wp2_with fail
      refine (HC.out _ HD.out).mono ?_
      rintro e w3 ⟨rfl, hb3⟩
      have HB3 := Lib.hid (bthen HB.out (bthen HD.out hb3))
      clear hb3
      go_wp2
      go_roundw
      case rel => exact ⟨j + 1, by omega, by go_num, HB3.out⟩
      case measure => simp [intOf]; omega
    · go_wp2
      go_ret
      exact ⟨rfl, hb⟩
theorem hset (hs : List Hd) (n k : Nat) (z x : Hd) (hk : k < n) (hl : hs.length = k) : (hs ++ List.replicate (n - k) z).set k x = (hs ++ [x]) ++ List.replicate (n - (k + 1)) z := by
  rw [List.set_append, if_neg (by omega), hl, Nat.sub_self]
  obtain ⟨m, hm⟩ : ∃ m, n - k = m + 1 := ⟨n - k - 1, by omega⟩
  rw [hm, List.replicate_succ, List.set_cons_zero, show n - (k + 1) = m by omega, List.append_assoc]
  rfl
/-- k lists have been copied -/
structure TN (g : Nat) (xss : List (List Nd)) (k : Nat) (w X : World) (hs : List Hd) (b : Nat → Nat) : Prop where
  len : hs.length = k
  row : Ow cH 44 g X (.slice (some ⟨g, 0, none⟩) xss.length xss.length) (hs ++ List.replicate (xss.length - k) ⟨none, 0, 0⟩)
  b0 : g + 1 ≤ b 0
  mono : ∀ i, b i ≤ b (i + 1)
  top : ∀ i, b i ≤ X.heap.size
  ob : ∀ i (p : i < hs.length) (q : i < xss.length), Ob cN 75 (b i) (b (i + 1)) X hs[i].val xss[i]
  be : Below g w X
theorem TN.step {g k : Nat} {xss : List (List Nd)} {w X Y : World} {hs : List Hd} {b : Nat → Nat} (h : TN g xss k w X hs b) (hk : k < xss.length) {A : Option Addr} {c : Nat} (ho : Ob cN 75 X.heap.size Y.heap.size Y (.slice A (xss[k]'hk).length c) (xss[k]'hk)) (hb : Below X.heap.size X Y) (hg : g ≤ X.heap.size) :
    ∃ hs' b', TN g xss (k + 1) w (Y.setCell ⟨g, k, none⟩ (.slice A (xss[k]'hk).length c)) hs' b' := by
  have hrow := h.row.below hb
  have hset1 := hrow.set1 (j := k) (x := (⟨A, (xss[k]'hk).length, c⟩ : Hd)) (u := .slice A (xss[k]'hk).length c) rfl rfl (by simp [h.len]; omega)
  rw [hset hs xss.length k _ _ hk h.len] at hset1
  have hfar : ∀ {B' H' : Nat} {v : Value} {xs : List Nd}, g + 1 ≤ B' → Ob cN 75 B' H' Y v xs → Ob cN 75 B' H' (Y.setCell ⟨g, k, none⟩ (.slice A (xss[k]'hk).length c)) v xs := fun {B' H' v xs} hB' hv =>
    ⟨hv.1.far (fun e => by have h9 : B' ≤ g := (hv.1.block _ e).1; omega) _, hv.2⟩
  refine ⟨hs ++ [⟨A, (xss[k]'hk).length, c⟩], fun i => if i ≤ k then b i else Y.heap.size, by simp [h.len], hset1, by simpa using h.b0, fun i => ?_, fun i => ?_, fun i p q => ?_, (h.be.trans (hb.mono hg)).setCell (Nat.le_refl _) _⟩
  · have h1 := h.top i
    have h2 := hb.size
    by_cases hi : i + 1 ≤ k
    · rw [if_pos (show i ≤ k by omega), if_pos hi]; exact h.mono i
    · rw [if_neg hi]
      split
      · omega
      · exact Nat.le_refl _
  · have h1 := h.top i
    have h2 := hb.size
    have h3 : (Y.setCell ⟨g, k, none⟩ (.slice A (xss[k]'hk).length c)).heap.size = Y.heap.size := by simp [World.setCell]
    rw [h3]
    show (if i ≤ k then b i else Y.heap.size) ≤ Y.heap.size
    split <;> omega
  · have hb0 := h.b0
    by_cases hi : i < hs.length
    · have := h.len
      rw [List.getElem_append_left hi]
      show Ob _ _ (if i ≤ k then b i else Y.heap.size) (if i + 1 ≤ k then b (i + 1) else Y.heap.size) _ _ _
      rw [if_pos (show i ≤ k by omega), if_pos (show i + 1 ≤ k by omega)]
      have hm := mono_of h.mono (Nat.zero_le i)
      exact hfar (by omega) ((h.ob i hi q).below hb)
    · have hl := h.len
      have e : i = hs.length := by simp at p; omega
      have e' : i = k := by omega
      subst e'
      have e2 : (hs ++ [(⟨A, (xss[i]'hk).length, c⟩ : Hd)])[i] = ⟨A, (xss[i]'hk).length, c⟩ := by simp [e]
      rw [e2]
      show Ob _ _ (if i ≤ i then b i else Y.heap.size) (if i + 1 ≤ i then b (i + 1) else Y.heap.size) _ _ _
      rw [if_pos (Nat.le_refl _), if_neg (show ¬ i + 1 ≤ i by omega)]
      have hm := mono_of h.mono (Nat.zero_le i)
      exact hfar (by omega) ⟨ho.1.mono (h.top i), ho.2⟩
theorem TN.fin {g : Nat} {xss : List (List Nd)} {w X : World} {hs : List Hd} {b : Nat → Nat} (h : TN g xss xss.length w X hs b) : Ob2 g X.heap.size X (.slice (some ⟨g, 0, none⟩) xss.length xss.length) xss := by
  have hr := h.row
  rw [Nat.sub_self, List.replicate_zero, List.append_nil] at hr
  refine ⟨hs, b, ⟨hr, fun k hk => ?_⟩, h.len, by have := h.b0; omega, h.mono, h.top, h.ob⟩
  have hk' : g = k := by injection hk
  have := h.b0
  omega
theorem u_to_SSN (v : Value) (xss : List (List Nd)) (w : World) (h : Sl2 cN w v xss) (hl : tot xss ≤ 1048576) :
    Calls Tryz.prog 7 #[v] w fun e w' => ∃ u, e = .returned u ∧ Ob2 w.heap.size w'.heap.size w' u xss ∧ Below w.heap.size w w' := by
  obtain ⟨A, c, rfl⟩ := h.opn
  have hT : tot xss = xss.length + sumL xss := rfl
  have hln : xss.length ≤ 1048576 := by omega
  have HG := Lib.hid (fun j (h : j < xss.length) => sumL_get xss j h)
  have HT : Hid (sumL xss ≤ 1048576) := Lib.hid (by omega)
  have HH := Lib.hid h
  clear hT hl h
  go_enter Tryz.func7, Tryz.ntmps7
  go_wp2_with (at_make; go_must (refine mk_full (K := cH) w ty_nodess rfl _ _ rfl w.heap.size xss.length ⟨none, 0, 0⟩ rfl rfl rfl (by omega) (Nat.le_refl _) ?_; intro w1 ho1 hg1 hb1 hsz1))
  have HO : Hid (TN w.heap.size xss 0 w w1 [] fun _ => w1.heap.size) := Lib.hid ⟨rfl, by simpa using ho1, hsz1, fun _ => Nat.le_refl _, fun _ => Nat.le_refl _, fun i p => (by simp at p), hb1⟩
  clear ho1 hg1 hb1 hsz1
  go_loopw [4] (fun i wr => ∃ k : Nat, k ≤ xss.length ∧ i = .int .i64 k ∧ ∃ hs b, TN w.heap.size xss k w wr hs b) (fun i _ => xss.length - (intOf i).toNat)
  case atStart => exact ⟨0, Nat.zero_le _, rfl, _, _, HO.out⟩
  case round =>
    obtain ⟨k, hk, rfl, hs, bb, ht⟩ := hrel
    have HTN := Lib.hid ht
    by_cases hlt : k < xss.length
    · obtain ⟨b, o, Ai, ci, rfl, hbl, hc0, hsj⟩ := (HH.out.below ht.be).atM hlt
      have HC := Lib.hid (u_to_SN _ _ wr hsj (by have := HG.out k hlt; have := HT.out; omega))
      have HST := Lib.hid (fun (Y : World) A' c' (ho : Ob cN 75 wr.heap.size Y.heap.size Y (.slice A' (xss[k]'hlt).length c') (xss[k]'hlt)) (hb : Below wr.heap.size wr Y) => ht.step hlt ho hb ht.be.size)
      have HRW := Lib.hid ht.row
      have hlk := ht.len
      have HLK := Lib.hid hlk
      have hgw : w.heap.size < wr.heap.size := by have := (ht.row.block w.heap.size rfl).2; exact this
      obtain ⟨m, hm⟩ : ∃ m : Nat, (xss[k]'hlt).length = m := ⟨_, rfl⟩
      rw [hm] at hc0 HC
      have HM := Lib.hid hm
      clear ht hsj hlk hm HO
      go_wp2_with fail
      refine HC.out.mono ?_
      rintro e w2 ⟨u, rfl, ho, hb⟩
      obtain ⟨A', c', rfl⟩ := ho.opn
      have hrow := HRW.out.below hb
      obtain ⟨q1, q2, q3, q4⟩ := hrow.at1 (j := k) (u := .slice none 0 0) rfl (by simp [HLK.out]; omega) (by rw [List.getElem_append_right (by rw [HLK.out]; omega)]; simp; rfl)
      have HX := Lib.hid (HST.out w2 A' c' ho hb)
      rw [HM.out] at HX ⊢
      clear ho hb hrow hc0
      go_wp2
      go_roundw
      case rel => exact ⟨k + 1, by omega, by go_num, HX.out⟩
      case measure => simp [intOf]; omega
    · obtain rfl : k = xss.length := by omega
      have Z := Lib.hid ht.fin
      have ZB := Lib.hid ht.be
      clear ht HO
      go_wp2
      go_ret
      exact ⟨_, rfl, Z.out, ZB.out⟩
theorem u_mark_SSN (v : Value) (xss : List (List Nd)) (k : Int) (B H : Nat) (w : World) (h : Ob2 B H w v xss) (hl : tot xss ≤ 33554432) (hk : 0 ≤ k ∧ k ≤ 67108864) :
    Calls Tryz.prog 12 #[v, .int .i64 k] w fun e w' => e = .returned (.int .i64 (k + 2 * sumL xss)) ∧ Keep B H w w' := by
  obtain ⟨A, c, rfl⟩ := h.opn
  obtain ⟨hs, b, h1, h2, h3, h4, h5, h6⟩ := h
  have hT : tot xss = xss.length + sumL xss := rfl
  have hln : xss.length ≤ 33554432 := by omega
  have HG := Lib.hid (fun j (h : j < xss.length) => sumL_get xss j h)
  have HS := Lib.hid (fun j (h : j < xss.length) => sumL_succ xss j h)
  have HK := Lib.hid (fun j => sumL_take xss j)
  have HT : Hid (sumL xss ≤ 33554432) := Lib.hid (by omega)
  have H4 := Lib.hid h4
  have H5 := Lib.hid h5
  have HSl : Hid (∀ X, Ob cH 44 B (b 0) X (.slice A xss.length c) hs → Sl cH X (.slice A hs.length c) hs) := Lib.hid (fun X hX => by rw [h2]; exact hX.sl)
  have H2 := Lib.hid h2
  have H60 := Lib.hid h6
  have H10 := Lib.hid h1
  clear hT hl h4 h5 h2 h6 h1
  go_enter Tryz.func12, Tryz.ntmps12
  go_wp2
  go_loopw [1, 5] (fun q i wr => ∃ j : Nat, j ≤ xss.length ∧ i = .int .i64 j ∧ q = .int .i64 (k + 2 * sumL (xss.take j)) ∧ Ob cH 44 B (b 0) wr (.slice A xss.length c) hs ∧ (∀ i (p : i < hs.length) (q : i < xss.length), j ≤ i → Ob cN 75 (b i) (b (i + 1)) wr hs[i].val xss[i]) ∧ Keep B H w wr) (fun _ i _ => xss.length - (intOf i).toNat)
  case atStart => exact ⟨0, Nat.zero_le _, rfl, by simp [sumL], H10.out, fun i p q _ => H60.out i p q, Keep.of_below (Below.refl _ _)⟩
  case round =>
    obtain ⟨j, hj, rfl, rfl, ho, hin, hkp⟩ := hrel
    have HO := Lib.hid ho
    have HI := Lib.hid hin
    have HKP := Lib.hid hkp
    by_cases hlt : j < xss.length
    · have hjl : j < hs.length := by rw [H2.out]; exact hlt
      obtain ⟨bb, oo, rfl, hbb, hcc⟩ := (HSl.out _ ho).cell (k := j) hjl
      have hc0 := hcc 0 _ (show (cH.cells hs[j])[0]? = some hs[j].val from rfl)
      have hoj := hin j hjl hlt (Nat.le_refl _)
      obtain ⟨Aj, cj, hvj⟩ := hoj.opn
      rw [hvj] at hc0 hoj
      simp only [show cH.size = 1 from rfl, Nat.mul_one, Nat.add_zero] at hc0
      obtain ⟨y, hy⟩ : ∃ y : Nat, sumL (xss.take j) = y := ⟨_, rfl⟩
      obtain ⟨m, hm⟩ : ∃ m : Nat, (xss[j]'hlt).length = m := ⟨_, rfl⟩
      have hyl : y ≤ 33554432 := by rw [← hy]; have := HK.out j; have := HT.out; omega
      have hml : m ≤ 33554432 := by rw [← hm]; have := HG.out j hlt; have := HT.out; omega
      have HC := Lib.hid (u_mark_SN _ _ (k + 2 * (y : Int)) (b j) (b (j + 1)) wr hoj)
      have HSU : Hid (sumL (xss.take (j + 1)) = y + m) := Lib.hid (by rw [HS.out j hlt, hy, hm])
      rw [hm] at hc0 HC
      rw [hy]
      have HM := Lib.hid hm
      have h2l := H2.out
      have HMO := Lib.hid (fun i (hi : j + 1 ≤ i) => mono_of H4.out hi)
      have HM0 := Lib.hid (mono_of H4.out (Nat.zero_le j))
      clear ho hin hkp hcc hoj hy hm h2l
      go_wp2_with fail
      refine (HC.out (by omega) (by omega)).mono ?_
      rintro e w2 ⟨rfl, ho2, hk2⟩
      have Z1 := Lib.hid (HO.out.keep hk2 (.inl HM0.out))
      have Z2 : Hid (∀ i (p : i < hs.length) (q : i < xss.length), j + 1 ≤ i → Ob cN 75 (b i) (b (i + 1)) w2 hs[i].val xss[i]) := Lib.hid (fun i p q hi => (HI.out i p q (by omega)).keep hk2 (.inr (HMO.out i hi)))
      have Z3 := Lib.hid (HKP.out.trans (hk2.mono (Nat.le_trans h3 HM0.out) (H5.out _)))
      clear ho2 hk2 hc0
      go_wp2
      go_roundw
      case rel => exact ⟨j + 1, by omega, by go_num, by rw [HSU.out]; go_num, Z1.out, Z2.out, Z3.out⟩
      case measure => simp [intOf]; omega
    · obtain rfl : j = xss.length := by omega
      have e1 : xss.take xss.length = xss := List.take_length
      rw [e1]
      clear e1 ho hin hkp HI
      go_wp2
      go_ret
      exact ⟨rfl, HKP.out⟩
open Go.RowKit Go.ChangeShapes Go.WideShapes Go.Deep in
/-- a slice of slices of pairs of int64s that came in -/
theorem open_SSN {H : Type} {enc : TypeId × Value → H} {P : Program} {w : World} {base : Nat} {spare : Nat → Bool} {held : Bool} {t e e2 : TypeId} {f0 f1 : Field} (ht : P.underlying t = some (.slice e)) (hc : P.cellsOf e = 1) (he : P.underlying e = some (.slice e2)) (he2 : P.underlying e2 = some (.struct #[f0, f1])) (hone : oneCellFields P #[f0, f1] = true) (hC : P.cellsOf e2 = 2)
    (h0 : P.underlying f0.type = some (.int .i64)) (h1 : P.underlying f1.type = some (.int .i64)) {fuel : Nat} {v : Value} {x : DataW H × List MemPlace}
    (h : DataW.trod enc P w base spare held fuel t [v] = some x) : ∃ xss : List (List Nd), Sl2 cN w v xss := by
  rcases open_slice1 ht hc h with ⟨hcs, _⟩ | ⟨a, len, cap, m, n, V, D, Pl, hcs, -, hl, hm, hmm, -, hi⟩
  · injection hcs with hv _
    subst hv
    exact ⟨[], [], Sl.nil, rfl, fun i a => by simp at a⟩
  · injection hcs with hv _
    subst hv
    have hml : len ≤ m := by rw [hmm]; split <;> omega
    have hex : ∀ i, i < len → ∃ (q : Hd) (xs : List Nd), w.cell? (a.add i) = some q.val ∧ Sl cN w q.val xs := by
      intro i hil
      obtain ⟨g1, g2⟩ := hi i (by omega)
      obtain ⟨xs, hs⟩ := open_SN he he2 hone hC h0 h1 g2
      obtain ⟨A, c, hv⟩ := hs.opn
      rw [hv] at g1 hs
      exact ⟨⟨A, xs.length, c⟩, xs, g1, hs⟩
    obtain ⟨hs, xss, e1, e2, h3⟩ : ∃ (hs : List Hd) (xss : List (List Nd)), hs.length = len ∧ xss.length = len ∧ ∀ i (p : i < hs.length) (q : i < xss.length), w.cell? (a.add i) = some hs[i].val ∧ Sl cN w hs[i].val xss[i] := by
      clear hi hml hm hl hmm h
      induction len with
      | zero => exact ⟨[], [], rfl, rfl, fun i p => by simp at p⟩
      | succ l ih =>
        obtain ⟨hs, xss, e1, e2, h3⟩ := ih fun i hi => hex i (by omega)
        obtain ⟨q, xs, g1, g2⟩ := hex l (by omega)
        refine ⟨hs ++ [q], xss ++ [xs], by simp [e1], by simp [e2], fun i p r => ?_⟩
        by_cases hil : i < hs.length
        · rw [List.getElem_append_left hil, List.getElem_append_left (by omega)]
          exact h3 i hil (by omega)
        · have : i = l := by simp at p; omega
          subst this
          have a1 : (hs ++ [q])[i] = q := by simp [e1]
          have a2 : (xss ++ [xs])[i] = xs := by simp [e2]
          rw [a1, a2]
          exact ⟨g1, g2⟩
    refine ⟨xss, hs, sl_of_cells (K := cH) e1.symm hl hm fun k u hu => ?_, by omega, fun i p q => (h3 i p q).2⟩
    have hkl : k < hs.length := by
      have := (List.getElem?_eq_some_iff.1 hu).1
      rw [flat_length] at this
      simpa [cH] using this
    have h2 := flat_get (K := cH) hs k hkl 0 (by decide)
    rw [show k * cH.size + 0 = k by simp [cH], hu] at h2
    rw [(h3 k hkl (by omega)).1, h2]
    rfl
end Go.Proofs.YtcikenffeekkeaaGreatDoor

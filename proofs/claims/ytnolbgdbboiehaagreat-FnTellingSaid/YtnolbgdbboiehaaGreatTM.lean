/- Joined of several texts: M07T, 07A, 07B, 07C, 07D, 07E. -/
import Derived.Test.YtnolbgdbboiehaaGreatSA
import Derived.Test.YtnolbgdbboiehaaGreatB6
import Derived.Test.YtnolbgdbboiehaaGreatHI
import Derived.Test.YtnolbgdbboiehaaGreatSch
import Derived.Test.YtnolbgdbboiehaaGreatN34
import Derived.Test.YtnolbgdbboiehaaGreatNN
import Derived.StillTailTactics
namespace Go.Proofs.YtnolbgdbboiehaaGreat
open Go.RowKit
set_option linter.unusedVariables false
set_option linter.unusedSimpArgs false
/- Plain words of chapter 7: telling formulas. No program in sight. -/
/-- the members of a mask -/
def mn (m : Nat) : List Nat := (List.range 64).filter m.testBit
theorem mems_mn (m : Nat) : mems m = li (mn m) := rfl
theorem mn_mem {m x : Nat} : x ∈ mn m ↔ x < 64 ∧ m.testBit x = true := by simp [mn]
theorem mn_len (m : Nat) : (mn m).length ≤ 64 := Nat.le_trans (List.length_filter_le _ _) (by simp)
theorem find_le {p : Nat → Bool} {n k : Nat} (hk : k < n) (hp : p k = true) : ∃ j, j ≤ k ∧ (List.range n).find? p = some j := by
  cases h : (List.range n).find? p with
  | none => exact absurd hp (by have := List.find?_eq_none.1 h k (List.mem_range.2 hk); simpa using this)
  | some j =>
    refine ⟨j, ?_, rfl⟩
    have hj := h
    rw [List.find?_range_eq_some] at h
    rcases Nat.lt_or_ge k j with h1 | h1
    · have := h.2.2 k h1
      rw [hp] at this; cases this
    · exact h1
section
variable (ns us ks ts : List Nat)
/-- the rounds in which two worlds are told apart -/
def rd (x y : Nat) : Option Nat := (List.range 17).find? fun k => !((bnd ns us ks ts k).getD x 0).testBit y
def joinA (op : Int) (ps : List (List Nd)) : List Nd := if ps.length = 0 then joinE op else joinL op ps
/-- a modality before the parts joined -/
def joi (md op : Int) (parts : List (Option (List Nd))) : Option (List Nd) :=
  if parts.all Option.isSome then (if ((md, (0 : Int)) :: joinA op (parts.filterMap id)).length ≤ 40 then some ((md, 0) :: joinA op (parts.filterMap id)) else none) else none
def lonW (lk : List Nat) (x y : Nat) : Option Nat := (mn (ns.getD x 0)).find? fun s => decide (lk.getD s 0 &&& ks.getD y 0 = 0)
def miss (lk : List Nat) (x y : Nat) : Option Nat := (mn (ks.getD y 0)).find? fun j => !(img lk (ns.getD x 0)).testBit j
def tstep (T : Nat → Nat → Option (List Nd)) (k x y : Nat) : Option (List Nd) :=
  match lonW ns ks (bnd ns us ks ts k) x y with
  | some s => joi 6 2 ((mn (ks.getD y 0)).map fun j => T s j)
  | none => match miss ns ks (bnd ns us ks ts k) x y with
    | some j => joi 5 3 ((mn (ns.getD x 0)).map fun i => T i j)
    | none => none
/-- the first variable that tells two worlds apart -/
def dif (x y : Nat) : Option Nat := (List.range 6).find? fun v => (us.getD v 0).testBit x != (ts.getD v 0).testBit y
def litF (v x : Nat) : List Nd := if (us.getD v 0).testBit x then [(0, (v : Int))] else [(4, 0), (0, (v : Int)), (1, 0)]
def atomF (x y : Nat) : Option (List Nd) := (dif us ts x y).map fun v => litF us v x
/-- the telling formulas of the worlds that are told apart in at most k rounds -/
def tab : Nat → Nat → Nat → Option (List Nd)
  | 0, x, y => if rd ns us ks ts x y = some 0 then atomF us ts x y else none
  | k + 1, x, y => if rd ns us ks ts x y = some (k + 1) then tstep ns us ks ts (tab k) k x y else tab k x y
end
variable {ns us ks ts : List Nat}
theorem tab_none {x y : Nat} (m : Nat) (h : ∀ k, k ≤ m → rd ns us ks ts x y ≠ some k) : tab ns us ks ts m x y = none := by
  induction m with
  | zero => rw [tab, if_neg (h 0 (Nat.le_refl _))]
  | succ m ih => rw [tab, if_neg (h (m + 1) (Nat.le_refl _)), ih fun k hk => h k (by omega)]
theorem tab_at {x y k : Nat} (h : rd ns us ks ts x y = some k) (m : Nat) (hm : k ≤ m) : tab ns us ks ts m x y = tab ns us ks ts k x y := by
  induction m with
  | zero =>
    obtain rfl : k = 0 := by omega
    rfl
  | succ m ih =>
    rcases Nat.lt_or_ge m k with h1 | h1
    · obtain rfl : k = m + 1 := by omega
      rfl
    · rw [tab, if_neg, ih h1]
      rw [h]; intro e; injection e with e; omega
theorem joinA_pos (op : Int) (ps : List (List Nd)) : True := trivial
theorem joi_len {md op : Int} {parts : List (Option (List Nd))} {xs : List Nd} (h : joi md op parts = some xs) : 0 < xs.length ∧ xs.length ≤ 40 := by
  unfold joi at h
  split at h
  · split at h
    · injection h with h
      subst h
      exact ⟨by simp, by assumption⟩
    · cases h
  · cases h
theorem tab_len (m : Nat) {x y : Nat} {xs : List Nd} (h : tab ns us ks ts m x y = some xs) : 0 < xs.length ∧ xs.length ≤ 40 := by
  induction m generalizing x y xs with
  | zero =>
    rw [tab] at h
    split at h
    · unfold atomF at h
      cases hd : dif us ts x y with
      | none => rw [hd] at h; cases h
      | some v =>
        rw [hd] at h
        injection h with h
        subst h
        dsimp only [litF]
        split <;> simp
    · cases h
  | succ m ih =>
    rw [tab] at h
    split at h
    · unfold tstep at h
      split at h
      · exact joi_len h
      · split at h
        · exact joi_len h
        · cases h
    · exact ih h
theorem bnd_rd {k s j : Nat} (hk : k < 17) (h : ((bnd ns us ks ts k).getD s 0).testBit j = false) : ∃ k', k' ≤ k ∧ rd ns us ks ts s j = some k' :=
  find_le hk (by rw [h]; rfl)
theorem and_bit {a b j : Nat} (h : a &&& b = 0) (hb : b.testBit j = true) : a.testBit j = false := by
  have := congrArg (fun n => n.testBit j) h
  simp only [Nat.testBit_and, hb, Bool.and_true, Nat.zero_testBit] at this
  exact this
theorem lonW_some {k x y s : Nat} (hk : k < 17) (h : lonW ns ks (bnd ns us ks ts k) x y = some s) :
    s < 64 ∧ (ns.getD x 0).testBit s = true ∧ ∀ j, j ∈ mn (ks.getD y 0) → ∃ k', k' ≤ k ∧ rd ns us ks ts s j = some k' := by
  have h1 := mn_mem.1 (List.mem_of_find?_eq_some h)
  have h2 := List.find?_some h
  simp only [decide_eq_true_eq] at h2
  exact ⟨h1.1, h1.2, fun j hj => bnd_rd hk (and_bit h2 (mn_mem.1 hj).2)⟩
theorem miss_some {k x y j : Nat} (hk : k < 17) (hl : ns.length ≤ 64) (hn : ∀ a ∈ ns, a < 2 ^ ns.length) (h : miss ns ks (bnd ns us ks ts k) x y = some j) :
    j < 64 ∧ (ks.getD y 0).testBit j = true ∧ ∀ i, i ∈ mn (ns.getD x 0) → ∃ k', k' ≤ k ∧ rd ns us ks ts i j = some k' := by
  have h1 := mn_mem.1 (List.mem_of_find?_eq_some h)
  have h2 := List.find?_some h
  simp only [Bool.not_eq_true'] at h2
  refine ⟨h1.1, h1.2, fun i hi => bnd_rd hk ?_⟩
  cases hb : ((bnd ns us ks ts k).getD i 0).testBit j
  · rfl
  · rw [← h2]
    have hi' := (mn_mem.1 hi).2
    have : (imgTo (bnd ns us ks ts k) (ns.getD x 0) (bnd ns us ks ts k).length).testBit j = true := (imgTo_bit _ _ _ _).2 ⟨i, by rw [bnd_length]; exact bit_lt (getD_lt hn x) hi', hi', hb⟩
    unfold img at h2 ⊢
    rw [this] at h2; cases h2
/-- the rounds of two worlds are the least -/
theorem rd_spec {x y k : Nat} (h : rd ns us ks ts x y = some k) : k < 17 ∧ ((bnd ns us ks ts k).getD x 0).testBit y = false ∧ ∀ k', k' < k → ((bnd ns us ks ts k').getD x 0).testBit y = true := by
  unfold rd at h
  rw [List.find?_range_eq_some] at h
  refine ⟨List.mem_range.1 h.2.1, by simpa using h.1, fun k' hk' => by simpa using h.2.2 k' hk'⟩
theorem rd_zero {x y : Nat} (hx : x < ns.length) (hy : y < ks.length) (h : rd ns us ks ts x y = some 0) : ∃ v, dif us ts x y = some v := by
  have h1 := (rd_spec h).2.1
  rw [bnd, lnk_getD _ hx, msk_testBit, decide_eq_true hy, Bool.true_and] at h1
  unfold dif
  cases hd : (List.range 6).find? (fun v => (us.getD v 0).testBit x != (ts.getD v 0).testBit y) with
  | some v => exact ⟨v, rfl⟩
  | none =>
    exfalso
    rw [List.find?_eq_none] at hd
    unfold atm at h1
    rw [List.all_eq_false] at h1
    obtain ⟨v, hv, h2⟩ := h1
    have := hd v hv
    simp at this
    simp [this] at h2
theorem rd_succ {x y k : Nat} (hn : ∀ a ∈ ns, a < 2 ^ ns.length) (hkb : ∀ a ∈ ks, a < 2 ^ ks.length) (hl : ns.length ≤ 8) (hl' : ks.length ≤ 8) (hx : x < ns.length) (hy : y < ks.length) (h : rd ns us ks ts x y = some (k + 1)) (h0 : lonW ns ks (bnd ns us ks ts k) x y = none) : ∃ j, miss ns ks (bnd ns us ks ts k) x y = some j := by
  obtain ⟨hk, h1, h2⟩ := rd_spec h
  rw [bnd, lnk_getD _ hx, msk_testBit, decide_eq_true hy, Bool.true_and] at h1
  have h3 := h2 0 (by omega)
  rw [bnd, lnk_getD _ hx, msk_testBit, decide_eq_true hy, Bool.true_and] at h3
  have hf : frt (bnd ns us ks ts k) (ns.getD x 0) (ks.getD y 0) = true := by
    unfold frt
    rw [List.all_eq_true]
    intro s hs
    unfold lonW at h0
    rw [List.find?_eq_none] at h0
    cases hb : (ns.getD x 0).testBit s
    · rfl
    · have := h0 s (mn_mem.2 ⟨by have := bit_lt (getD_lt hn x) hb; omega, hb⟩)
      simpa using this
  unfold hol at h1
  rw [h3, hf, Bool.true_and, Bool.true_and] at h1
  unfold miss
  cases hd : (mn (ks.getD y 0)).find? (fun j => !(img (bnd ns us ks ts k) (ns.getD x 0)).testBit j) with
  | some v => exact ⟨v, rfl⟩
  | none =>
    exfalso
    rw [List.find?_eq_none] at hd
    have : bck (bnd ns us ks ts k) (ns.getD x 0) (ks.getD y 0) = true := by
      unfold bck
      rw [decide_eq_true_eq, andnot_zero]
      intro t ht
      have := hd t (mn_mem.2 ⟨by have := bit_lt (getD_lt hkb y) ht; omega, ht⟩)
      simpa using this
    rw [this] at h1; cases h1
/- Contracts of chapter 7, of the program: what tells worlds apart: its code, rounds. -/
theorem impl_hasWorld7 (n x : Int) (va : Value) (A : Option Addr) (m c : Nat) (hv : va = .slice A m c) (w : World) (hn : 0 ≤ n ∧ n ≤ 8) :
    Calls Tryz.prog 65 #[.agg #[.int .i64 n, va], .int .i64 x] w fun e w' => e = .returned (.bool (inR x 0 (n - 1))) ∧ Below w.heap.size w w' := by
  subst hv
  have hb0 := below_alloc' w (.cells #[.int .i64 n, .slice A m c] 26)
  have hk0 := Blk.new w 26 #[.int .i64 n, .slice A m c]
  have HB := Lib.hid hb0
  have HK0 := Lib.hid hk0
  have hw1 : IntKind.i64.wrap (n - 1) = n - 1 := IntWalk.i64_in _ ⟨by omega, by omega⟩
  have hw2 : wrap64 (n - 1) = n - 1 := IntWalk.wrap64_in _ ⟨by omega, by omega⟩
  clear hb0 hk0
  go_enter Tryz.func65, Tryz.ntmps65
  go_upto_region 1 with fail
  generalize World.alloc w _ = W at *
  have k0 : W.cell? ⟨w.heap.size, 0, none⟩ = some (.int .i64 n) := HK0.out.cell 0
  have l0 := HK0.out.lt
  go_wp2_with fail
  refine (impl_inRange _ _ _ _).mono ?_
  rintro e w1 ⟨rfl, rfl⟩
  go_wp2
  go_ret
  exact ⟨rfl, HB.out⟩
/-- the code of two worlds of two models -/
def tcode (n : Int) (xs vs : List Int) (x : Int) (k : Int) (ys ts : List Int) (y : Int) : Int := if mdOk n xs vs && mdOk k ys ts then (if inR x 0 (n - 1) && inR y 0 (k - 1) then 0 else 2) else 1
set_option maxRecDepth 100000 in
theorem impl_tellingCode (n x k y : Int) (va vu vb vt : Value) (xs vs ys ts : List Int) (w : World) (ha : Sl cI w va xs) (hu : Sl cI w vu vs) (hb : Sl cI w vb ys) (ht : Sl cI w vt ts) (hl : xs.length + vs.length ≤ 1048576) (hl' : ys.length + ts.length ≤ 1048576) :
    Calls Tryz.prog 56 #[.agg #[.int .i64 n, va, vu], .int .i64 x, .agg #[.int .i64 k, vb, vt], .int .i64 y] w fun e w' => e = .returned (.int .i64 (tcode n xs vs x k ys ts y)) ∧ Below w.heap.size w w' := by
  obtain ⟨A0, c0, rfl⟩ := ha.opn
  obtain ⟨A1, c1, rfl⟩ := hu.opn
  obtain ⟨B0, d0, rfl⟩ := hb.opn
  obtain ⟨B1, d1, rfl⟩ := ht.opn
  have hb0 := below_alloc' w (.cells #[.int .i64 n, .slice A0 xs.length c0, .slice A1 vs.length c1] 28)
  have hk0 := Blk.new w 28 #[.int .i64 n, .slice A0 xs.length c0, .slice A1 vs.length c1]
  have hb1 := below_alloc' (w.alloc (.cells #[.int .i64 n, .slice A0 xs.length c0, .slice A1 vs.length c1] 28)) (.cells #[.int .i64 k, .slice B0 ys.length d0, .slice B1 ts.length d1] 28)
  have hk1 : Blk _ (w.heap.size + 1) _ _ := Blk.new' (w.alloc (.cells #[.int .i64 n, .slice A0 xs.length c0, .slice A1 vs.length c1] 28)) 28 #[.int .i64 k, .slice B0 ys.length d0, .slice B1 ts.length d1] (by simp)
  have hbb := bthen hb0 hb1
  have HB := Lib.hid hbb
  have HK0 := Lib.hid (hk0.below hb1 hk0.lt)
  have HK1 := Lib.hid hk1
  have M1 := Lib.hid (fun W (hW : Below w.heap.size w W) => impl_isModel n _ _ xs vs W (ha.below hW) (hu.below hW) (by omega) (by omega))
  have M2 := Lib.hid (fun W (hW : Below w.heap.size w W) => impl_isModel k _ _ ys ts W (hb.below hW) (ht.below hW) (by omega) (by omega))
  have HT : Hid (tcode n xs vs x k ys ts y = if mdOk n xs vs && mdOk k ys ts then (if inR x 0 (n - 1) && inR y 0 (k - 1) then 0 else 2) else 1) := Lib.hid rfl
  have HN : Hid (mdOk n xs vs = true → 0 ≤ n ∧ n ≤ 8) := Lib.hid fun h => by obtain ⟨ns, us, -, -, rfl, hr, -⟩ := mdOk_iff h; have := hr.1; omega
  have HN2 : Hid (mdOk k ys ts = true → 0 ≤ k ∧ k ≤ 8) := Lib.hid fun h => by obtain ⟨ns, us, -, -, rfl, hr, -⟩ := mdOk_iff h; have := hr.1; omega
  clear hb0 hb1 hk0 hk1 hbb ha hu hb ht
  obtain ⟨q1, hq1⟩ : ∃ q, mdOk n xs vs = q := ⟨_, rfl⟩
  obtain ⟨q2, hq2⟩ : ∃ q, mdOk k ys ts = q := ⟨_, rfl⟩
  rw [hq1] at M1 HT HN
  rw [hq2] at M2 HT HN2
  clear hq1 hq2
  go_enter Tryz.func56, Tryz.ntmps56
  go_upto_region 1 with fail
  generalize World.alloc (w.alloc _) _ = W at *
  have k0 := HK0.out.cell
  have k1 := HK1.out.cell
  have l0 := HK0.out.lt
  have l1 := HK1.out.lt
  go_wp2_with fail
  refine (M1.out _ HB.out).mono ?_
  rintro e w1 ⟨rfl, hb⟩
  have HB1 := Lib.hid (bthen HB.out hb)
  have HK2 := Lib.hid (HK0.out.below hb HK0.out.lt)
  have HK3 := Lib.hid (HK1.out.below hb HK1.out.lt)
  clear hb k0 k1 l0 l1
  cases q1
  · go_wp2
    go_ret
    exact ⟨by rw [HT.out]; rfl, HB1.out⟩
  have k0 := HK2.out.cell
  have k1 := HK3.out.cell
  have l0 := HK2.out.lt
  have l1 := HK3.out.lt
  go_wp2_with fail
  refine (M2.out _ HB1.out).mono ?_
  rintro e w2 ⟨rfl, hb⟩
  have HB2 := Lib.hid (bthen HB1.out hb)
  have HK4 := Lib.hid (HK2.out.below hb HK2.out.lt)
  have HK5 := Lib.hid (HK3.out.below hb HK3.out.lt)
  clear hb k0 k1 l0 l1
  cases q2
  · go_wp2
    go_ret
    exact ⟨by rw [HT.out]; rfl, HB2.out⟩
  have k0 := HK4.out.cell
  have k1 := HK5.out.cell
  have l0 := HK4.out.lt
  have l1 := HK5.out.lt
  have W1 := Lib.hid (fun W => impl_hasWorld7 n x _ A0 xs.length c0 rfl W (HN.out (by trivial)))
  have W2 := Lib.hid (fun W => impl_hasWorld7 k y _ B0 ys.length d0 rfl W (HN2.out (by trivial)))
  have HT2 : Hid (tcode n xs vs x k ys ts y = if inR x 0 (n - 1) && inR y 0 (k - 1) then 0 else 2) := Lib.hid (by rw [HT.out]; rfl)
  obtain ⟨q1, hq1⟩ : ∃ q, inR x 0 (n - 1) = q := ⟨_, rfl⟩
  obtain ⟨q2, hq2⟩ : ∃ q, inR y 0 (k - 1) = q := ⟨_, rfl⟩
  rw [hq1] at W1 HT2
  rw [hq2] at W2 HT2
  clear hq1 hq2 HT
  go_wp2_with fail
  refine (W1.out _).mono ?_
  rintro e w3 ⟨rfl, hb⟩
  have HB3 := Lib.hid (bthen HB2.out hb)
  have HK6 := Lib.hid (HK5.out.below hb HK5.out.lt)
  clear hb k0 k1 l0 l1
  cases q1
  · go_wp2
    go_ret
    exact ⟨by rw [HT2.out]; rfl, HB3.out⟩
  have k1 := HK6.out.cell
  have l1 := HK6.out.lt
  go_wp2_with fail
  refine (W2.out _).mono ?_
  rintro e w4 ⟨rfl, hb⟩
  have HB4 := Lib.hid (bthen HB3.out hb)
  clear hb k1 l1
  cases q2
  all_goals
    go_wp2
    go_ret
    exact ⟨by rw [HT2.out]; rfl, HB4.out⟩
/-- what tells two models apart, in block p -/
structure Tl (w : World) (p : Nat) (ns us ks ts : List Nat) (A0 A1 B0 B1 L : Option Addr) (c0 c1 d0 d1 lc : Nat) : Prop where
  blk : Blk w p 119 #[.int .i64 ns.length, .slice A0 ns.length c0, .slice A1 6 c1, .int .i64 ks.length, .slice B0 ks.length d0, .slice B1 6 d1, .slice L 17 lc]
  m : Mdl w (.slice A0 ns.length c0) (.slice A1 6 c1) ns us
  n : Mdl w (.slice B0 ks.length d0) (.slice B1 6 d1) ks ts
  l : Sl2 cI w (.slice L 17 lc) (bdL ns us ks ts 16)
theorem Tl.below {w w' : World} {p : Nat} {ns us ks ts : List Nat} {A0 A1 B0 B1 L : Option Addr} {c0 c1 d0 d1 lc : Nat} (h : Tl w p ns us ks ts A0 A1 B0 B1 L c0 c1 d0 d1 lc) (hb : Below w.heap.size w w') : Tl w' p ns us ks ts A0 A1 B0 B1 L c0 c1 d0 d1 lc :=
  ⟨h.blk.below hb h.blk.lt, h.m.below hb, h.n.below hb, h.l.below hb⟩
set_option maxRecDepth 100000 in
theorem impl_newTeller (ns us ks ts : List Nat) (A0 A1 B0 B1 : Option Addr) (c0 c1 d0 d1 : Nat) (w : World) (hm : Mdl w (.slice A0 ns.length c0) (.slice A1 6 c1) ns us) (hm2 : Mdl w (.slice B0 ks.length d0) (.slice B1 6 d1) ks ts) (h1 : MdN ns us) (h2 : MdN ks ts) :
    Calls Tryz.prog 57 #[.agg #[.int .i64 ns.length, .slice A0 ns.length c0, .slice A1 6 c1], .agg #[.int .i64 ks.length, .slice B0 ks.length d0, .slice B1 6 d1]] w
      fun e w' => ∃ p L lc, e = .returned (.pointer (some ⟨p, 0, none⟩)) ∧ Tl w' p ns us ks ts A0 A1 B0 B1 L c0 c1 d0 d1 lc ∧ Below w.heap.size w w' := by
  have hb0 := below_alloc' w (.cells #[.int .i64 ns.length, .slice A0 ns.length c0, .slice A1 6 c1] 28)
  have hk0 := Blk.new w 28 #[.int .i64 ns.length, .slice A0 ns.length c0, .slice A1 6 c1]
  have hb1 := below_alloc' (w.alloc (.cells #[.int .i64 ns.length, .slice A0 ns.length c0, .slice A1 6 c1] 28)) (.cells #[.int .i64 ks.length, .slice B0 ks.length d0, .slice B1 6 d1] 28)
  have hk1 : Blk _ (w.heap.size + 1) _ _ := Blk.new' (w.alloc (.cells #[.int .i64 ns.length, .slice A0 ns.length c0, .slice A1 6 c1] 28)) 28 #[.int .i64 ks.length, .slice B0 ks.length d0, .slice B1 6 d1] (by simp)
  have HB := Lib.hid (bthen hb0 hb1)
  have HK0 := Lib.hid (hk0.below hb1 hk0.lt)
  have HK1 := Lib.hid hk1
  have HM := Lib.hid ((hm.below hb0).below hb1)
  have HM2 := Lib.hid ((hm2.below hb0).below hb1)
  have HN1 := Lib.hid h1
  have HN2 := Lib.hid h2
  clear hb0 hb1 hk0 hk1 hm hm2 h1 h2
  go_enter Tryz.func57, Tryz.ntmps57
  go_upto_region 1 with fail
  generalize World.alloc (w.alloc _) _ = W at *
  have HC := Lib.hid (fun X (hX : Below W.heap.size W X) => impl_bounded ns us ks ts 16 A0 A1 B0 B1 c0 c1 d0 d1 X (by omega) (HM.out.below hX) (HM2.out.below hX) HN1.out HN2.out)
  have k0 : W.cell? ⟨w.heap.size, 0, none⟩ = some (.int .i64 ns.length) := HK0.out.cell 0
  have k1 : W.cell? ⟨w.heap.size, 1, none⟩ = some (.slice A0 ns.length c0) := HK0.out.cell 1
  have k2 : W.cell? ⟨w.heap.size, 2, none⟩ = some (.slice A1 6 c1) := HK0.out.cell 2
  have j0 : W.cell? ⟨w.heap.size + 1, 0, none⟩ = some (.int .i64 ks.length) := HK1.out.cell 0
  have j1 : W.cell? ⟨w.heap.size + 1, 1, none⟩ = some (.slice B0 ks.length d0) := HK1.out.cell 1
  have j2 : W.cell? ⟨w.heap.size + 1, 2, none⟩ = some (.slice B1 6 d1) := HK1.out.cell 2
  have l0 := HK0.out.lt
  have l1 := HK1.out.lt
  refine wp_region_sched (Below W.heap.size W) 5 [0, 1, 2, 3] [0, 1, 2, 3, 4] (by kernel_rfl) (by kernel_rfl) (Below.refl _ _).drew ?_
  repeat
    apply wpSched_q rfl rfl
    case h =>
      intro w' hI K hK
      have k0' := (hI.cell (p := ⟨w.heap.size, 0, none⟩) l0).trans k0
      have k1' := (hI.cell (p := ⟨w.heap.size, 1, none⟩) l0).trans k1
      have k2' := (hI.cell (p := ⟨w.heap.size, 2, none⟩) l0).trans k2
      have j0' := (hI.cell (p := ⟨w.heap.size + 1, 0, none⟩) l1).trans j0
      have j1' := (hI.cell (p := ⟨w.heap.size + 1, 1, none⟩) l1).trans j1
      have j2' := (hI.cell (p := ⟨w.heap.size + 1, 2, none⟩) l1).trans j2
      simp only [quietV, stillV]
      go_simp
      exact hK
    go_simp
  refine wpSched_r rfl rfl ?_ (Below.refl _ _).drew
  intro K hK hI
  go_simp
  refine (HC.out _ hI).mono ?_
  rintro e w1 ⟨v, rfl, hs, hb⟩
  have hb2 := hI.trans (hb.mono hI.size)
  refine hK _ _ hb2 ?_
  clear hK K hb
  refine wpSched_nil ?_
  try simp only [List.drop_succ_cons, List.drop_zero, List.drop_nil]
  obtain ⟨L, lc, rfl⟩ := hs.opn
  rw [bdL_length, show 16 + 1 = 17 from rfl] at hs ⊢
  have HS := Lib.hid hs
  have HB2 := Lib.hid hb2
  clear hb2 hs k0 k1 k2 j0 j1 j2
  have HBL := Lib.hid (Blk.new w1 119 #[.int .i64 ns.length, .slice A0 ns.length c0, .slice A1 6 c1, .int .i64 ks.length, .slice B0 ks.length d0, .slice B1 6 d1, .slice L 17 lc])
  have HBA := Lib.hid (below_alloc' w1 (.cells #[.int .i64 ns.length, .slice A0 ns.length c0, .slice A1 6 c1, .int .i64 ks.length, .slice B0 ks.length d0, .slice B1 6 d1, .slice L 17 lc] 119))
  go_wp2
  go_ret
  exact ⟨_, _, _, rfl, ⟨HBL.out, (HM.out.below HB2.out).below HBA.out, (HM2.out.below HB2.out).below HBA.out, HS.out.below HBA.out⟩, bthen (bthen HB.out HB2.out) HBA.out⟩
theorem slices_IndexFunc_intss (v : Value) (xss : List (List Int)) (k : FuncId) (cap : Array Value) (p : Nat → Bool) (w : World) (h : Sl2 cI w v xss) (hl : xss.length ≤ 1073741824)
    (hk : ∀ (args : Array Value) (w : World), (callFunc k args).run Tryz.prog w = .ok (.enter k args) w)
    (hf : ∀ w', Below w.heap.size w w' → ∀ (u : Value) (i : Nat) (hi : i < xss.length), Sl cI w' u xss[i] → Calls Tryz.prog k (#[u] ++ cap) w' fun e w'' => e = .returned (.bool (p i)) ∧ Below w'.heap.size w' w'') :
    Calls Tryz.prog 116 #[v, .func (.func k) #[] cap] w fun e w' => e = .returned (.int .i64 (fidx p xss.length)) ∧ Below w.heap.size w w' := by
  obtain ⟨A, c, rfl⟩ := h.opn
  have HF := Lib.hid hf; clear hf
  go_enter Tryz.func116, Tryz.ntmps116
  go_wp2
  go_loopw [8] (fun i wr => ∃ j : Nat, j ≤ xss.length ∧ i = .int .i64 j ∧ (∀ i < j, p i = false) ∧ Below w.heap.size w wr) (fun i _ => xss.length - (intOf i).toNat)
  case atStart => exact ⟨0, Nat.zero_le _, rfl, fun i hi => by omega, Below.refl _ _⟩
  case round =>
    obtain ⟨j, hj, rfl, hh, hb⟩ := hrel
    have Hh := Lib.hid hh; clear hh
    by_cases hlt : j < xss.length
    · obtain ⟨b, o, Ai, ni, ci, rfl, hbl, hc0, hs⟩ := (h.below hb).at_ hlt
      have HS := Lib.hid hs; clear hs
      go_wp2_with fail
      refine (HF.out wr hb _ j hlt HS.out).mono ?_
      rintro e w1 ⟨rfl, hb1⟩
      have HB : Hid (Below w.heap.size w w1) := Lib.hid (hb.trans (hb1.mono hb.size))
      clear hb1 hb
      by_cases hp : p j = true
      · have HE := Lib.hid (fidx_some hlt Hh.out hp)
        rw [hp]
        have HP := Lib.hid hp; clear hp
        go_wp2
        go_ret
        exact ⟨by rw [HE.out]; rfl, HB.out⟩
      · rw [Bool.not_eq_true] at hp
        rw [hp]
        have HP := Lib.hid hp; clear hp
        go_wp2
        go_roundw
        case rel => exact ⟨j + 1, by omega, by go_num, fun i hi => (Nat.lt_or_ge i j).elim (fun h => Hh.out i h) (fun h => (show i = j by omega) ▸ HP.out), HB.out⟩
        case measure => simp [intOf]; omega
    · have HE : Hid (fidx p xss.length = -1) := Lib.hid (fidx_none fun i hi => Hh.out i (by omega))
      have HB := Lib.hid hb; clear hb
      go_wp2
      go_ret
      exact ⟨by rw [HE.out]; rfl, HB.out⟩
/-- a place as a number -/
def oI : Option Nat → Int
  | some s => s
  | none => -1
/-- the rounds as a number -/
def rdI (ns us ks ts : List Nat) (x y : Nat) : Int := match rd ns us ks ts x y with
  | some k => k
  | none => -1
theorem rd_fidx (ns us ks ts : List Nat) (x y : Nat) : fidx (fun k => !((bnd ns us ks ts k).getD x 0).testBit y) 17 = rdI ns us ks ts x y := by
  unfold rdI
  cases h : rd ns us ks ts x y with
  | none =>
    unfold rd at h
    exact fidx_none fun i hi => by
      have := List.find?_eq_none.1 h i (List.mem_range.2 hi)
      rwa [Bool.not_eq_true] at this
  | some k =>
    obtain ⟨h1, h2, h3⟩ := rd_spec h
    exact fidx_some h1 (fun i hi => by rw [h3 i hi]; rfl) (by rw [h2]; rfl)
theorem q_has7 {m i : Nat} (hm : m < 9223372036854775808) (hi : i ≤ 63) (W : World) (n : Nat) :
    Calls Tryz.prog 66 #[.int .i64 m, .int .i64 i] (W.drewN n) fun e w' => e = .returned (.bool (m.testBit i)) ∧ ∃ k, w' = W.drewN k :=
  (impl_has m i _ hm hi).mono fun e w' ⟨he, hw⟩ => ⟨he, n, hw.symm⟩
theorem en_rounds_1 : ∀ (args : Array Value) (w : World), (callFunc 117 args).run Tryz.prog w = .ok (.enter 117 args) w := enters Tryz.func117 (by kernel_rfl) (by kernel_rfl)
theorem impl_rounds_1 (v : Value) (lk : List Nat) (x y P Q : Nat) (w : World) (h : Sl cI w v (li lk)) (hx : x < lk.length) (hl : ∀ i, lk.getD i 0 < 256) (hy : y ≤ 60) (hP : w.cell? ⟨P, 0, none⟩ = some (.int .i64 x)) (hQ : w.cell? ⟨Q, 0, none⟩ = some (.int .i64 y)) (lP : P < w.heap.size) (lQ : Q < w.heap.size) :
    Calls Tryz.prog 117 #[v, .pointer (some ⟨P, 0, none⟩), .pointer (some ⟨Q, 0, none⟩)] w fun e w' => e = .returned (.bool (!(lk.getD x 0).testBit y)) ∧ Below w.heap.size w w' := by
  obtain ⟨A, c, rfl⟩ := h.opn
  obtain ⟨b, o, rfl, hbl, hc0⟩ := h.atI (k := x) (by rw [li_length]; exact hx)
  rw [li_get] at hc0
  have HC := Lib.hid (fun n => q_has7 (m := lk.getD x 0) (i := y) (by have := hl x; omega) (by omega) w n)
  rw [li_length] at *
  generalize lk.getD x 0 = q at *
  clear h hl
  go_enter Tryz.func117, Tryz.ntmps117
  go_wp2
  go_quiet ((go_at_call 66; exact HC.out _))
  go_wp2
  go_ret
  exact ⟨rfl, below_drewN (Below.refl _ _) _⟩
theorem bnd_256 {ns us ks ts : List Nat} (h : ks.length ≤ 8) (k i : Nat) : (bnd ns us ks ts k).getD i 0 < 256 := Nat.lt_of_lt_of_le (getD_lt (bnd_lt ns us ks ts k) i) (two_pow_256 h)
set_option maxRecDepth 100000 in
theorem impl_rounds (p : Nat) (ns us ks ts : List Nat) (A0 A1 B0 B1 L : Option Addr) (c0 c1 d0 d1 lc : Nat) (x y : Nat) (w : World) (h : Tl w p ns us ks ts A0 A1 B0 B1 L c0 c1 d0 d1 lc) (h1 : MdN ns us) (h2 : MdN ks ts) (hx : x < ns.length) (hy : y < ks.length) :
    Calls Tryz.prog 58 #[.pointer (some ⟨p, 0, none⟩), .int .i64 x, .int .i64 y] w fun e w' => e = .returned (.int .i64 (rdI ns us ks ts x y)) ∧ Below w.heap.size w w' := by
  have h8 := h1.r.1
  have hk8 := h2.r.1
  have hb0 := below_alloc' w (.cells #[.int .i64 x] 2)
  have hk0 := Blk.new w 2 #[.int .i64 x]
  have hb1 := below_alloc' (w.alloc (.cells #[.int .i64 x] 2)) (.cells #[.int .i64 y] 2)
  have hk1 : Blk _ (w.heap.size + 1) _ _ := Blk.new' (w.alloc (.cells #[.int .i64 x] 2)) 2 #[.int .i64 y] (by simp)
  have HB := Lib.hid (bthen hb0 hb1)
  have HK0 := Lib.hid (hk0.below hb1 hk0.lt)
  have HK1 := Lib.hid hk1
  have HT := Lib.hid ((h.below hb0).below hb1)
  have HR := Lib.hid (rd_fidx ns us ks ts x y)
  clear hb0 hb1 hk0 hk1 h h1 h2
  go_enter Tryz.func58, Tryz.ntmps58
  go_upto_region 1 with fail
  generalize World.alloc (w.alloc _) _ = W at *
  have HI := Lib.hid (slices_IndexFunc_intss _ _ 117 #[.pointer (some ⟨w.heap.size, 0, none⟩), .pointer (some ⟨w.heap.size + 1, 0, none⟩)] (fun k => !((bnd ns us ks ts k).getD x 0).testBit y) W HT.out.l (by rw [bdL_length]; omega) en_rounds_1 (fun w' hb u i hi hs => by
    rw [bdL_get] at hs
    exact impl_rounds_1 u _ x y w.heap.size (w.heap.size + 1) w' hs (by rw [bnd_length]; exact hx) (bnd_256 hk8 i) (by omega) ((hb.cell (p := ⟨w.heap.size, 0, none⟩) HK0.out.lt).trans (HK0.out.cell 0)) ((hb.cell (p := ⟨w.heap.size + 1, 0, none⟩) HK1.out.lt).trans (HK1.out.cell 0)) (Nat.lt_of_lt_of_le HK0.out.lt hb.size) (Nat.lt_of_lt_of_le HK1.out.lt hb.size)))
  rw [bdL_length, show 16 + 1 = 17 from rfl, HR.out] at HI
  have k6 : W.cell? ⟨p, 6, none⟩ = some (.slice L 17 lc) := HT.out.blk.cell 6
  have lp := HT.out.blk.lt
  go_wp2_with fail
  refine HI.out.mono ?_
  rintro e w1 ⟨rfl, hb⟩
  have HB2 := Lib.hid (bthen HB.out hb)
  clear hb k6
  go_wp2
  go_ret
  exact ⟨rfl, HB2.out⟩
set_option maxRecDepth 100000 in
theorem impl_lonely (p : Nat) (ns us ks ts lk : List Nat) (A0 A1 B0 B1 L : Option Addr) (c0 c1 d0 d1 lc : Nat) (x y : Nat) (v : Value) (w : World) (h : Tl w p ns us ks ts A0 A1 B0 B1 L c0 c1 d0 d1 lc) (h1 : MdN ns us) (h2 : MdN ks ts) (hx : x < ns.length) (hy : y < ks.length) (hv : Sl cI w v (li lk)) (hlk : lk.length = ns.length) (hl : ∀ i, lk.getD i 0 < 256) :
    Calls Tryz.prog 121 #[.pointer (some ⟨p, 0, none⟩), .int .i64 x, .int .i64 y, v] w fun e w' => e = .returned (.int .i64 (oI (lonW ns ks lk x y))) ∧ Below w.heap.size w w' := by
  have h8 := h1.r.1
  have hk8 := h2.r.1
  obtain ⟨C, lcc, rfl⟩ := hv.opn
  rw [li_length, hlk] at hv ⊢
  have k2 : w.cell? ⟨p, 1, none⟩ = some (.slice A0 ns.length c0) := h.blk.cell 1
  have k4 : w.cell? ⟨p, 4, none⟩ = some (.slice B0 ks.length d0) := h.blk.cell 4
  have lp := h.blk.lt
  have hx' : x < (li ns).length := by rw [li_length]; exact hx
  have hy' : y < (li ks).length := by rw [li_length]; exact hy
  have hma := h.m.a
  have hna := h.n.a
  obtain ⟨bm, om, e1, hbm, hcm⟩ := hma.atI hx'
  obtain ⟨bn, on, e2, hbn, hcn⟩ := hna.atI hy'
  subst e1
  subst e2
  rw [li_get] at hcm hcn
  clear hma hna
  have hn1 := h1.n256 x
  have hn2 := h2.n256 y
  have hbit : ∀ s, s ∈ mn (ns.getD x 0) → s < ns.length := fun s hs => bit_lt (getD_lt h1.r.2 x) (mn_mem.1 hs).2
  have HBIT := Lib.hid hbit
  have HMem := Lib.hid (fun W => impl_membersOf (ns.getD x 0) W (by omega))
  have HV := Lib.hid hv
  have HL := Lib.hid hl
  have HE : Hid (lonW ns ks lk x y = (mn (ns.getD x 0)).find? fun s => decide (lk.getD s 0 &&& ks.getD y 0 = 0)) := Lib.hid rfl
  rw [mems_mn] at HMem
  have hmlen := mn_len (ns.getD x 0)
  clear h h1 h2 hbit hv hl
  generalize ns.getD x 0 = mx at *
  generalize ks.getD y 0 = my at *
  generalize mn mx = M at *
  go_enter Tryz.func121, Tryz.ntmps121
  go_wp2_with fail
  refine (HMem.out _).mono ?_
  rintro e w1 ⟨u, rfl, ho, hb⟩
  obtain ⟨Au, cu, rfl⟩ := ho.opn
  rw [li_length] at ho ⊢
  have HO := Lib.hid ho.sl
  have HB := Lib.hid hb
  clear ho hb
  go_wp2
  have HPk2 : Hid (w1.cell? ⟨p, 4, none⟩ = some (.slice (some ⟨bn, on, none⟩) ks.length d0)) := Lib.hid ((HB.out.cell (p := ⟨p, 4, none⟩) lp).trans k4)
  have HPn : Hid (w1.cell? ⟨bn, on + y, none⟩ = some (.int .i64 my)) := Lib.hid ((HB.out.cell (p := ⟨bn, on + y, none⟩) hbn).trans hcn)
  have lp1 := Nat.lt_of_lt_of_le lp HB.out.size
  have lb1 := Nat.lt_of_lt_of_le hbn HB.out.size
  have HV1 := Lib.hid (HV.out.below HB.out)
  clear k2 k4 hcm hcn hbm
  go_loopw [22] (fun i wr => ∃ j : Nat, j ≤ M.length ∧ i = .int .i64 j ∧ (∃ q, wr = w1.drewN q) ∧ ∀ k (hk : k < M.length), k < j → ¬ (lk.getD (M[k]'hk) 0 &&& my = 0)) (fun i _ => M.length - (intOf i).toNat)
  case atStart => exact ⟨0, Nat.zero_le _, rfl, ⟨0, rfl⟩, fun k hk h => by omega⟩
  case round =>
    obtain ⟨j, hj, rfl, ⟨q, rfl⟩, hh⟩ := hrel
    have HH := Lib.hid hh
    clear hh
    by_cases hlt : j < M.length
    · have hsn := HBIT.out _ (List.getElem_mem hlt)
      have hoj := HO.out
      have hmj : j < (li M).length := by rw [li_length]; exact hlt
      obtain ⟨ba, oa, e1, hba, hca⟩ := hoj.atI hmj
      subst e1
      have hvj := HV1.out
      obtain ⟨bl, ol, e2, hbl, hcl⟩ := hvj.atI (k := M[j]) (by rw [li_length, hlk]; exact hsn)
      subst e2
      rw [li_get] at hca hcl
      have eM : M.getD j 0 = M[j] := by simp [List.getD_eq_getElem?_getD, hlt]
      rw [eM] at hca
      have HN2 : Hid (lk.getD M[j] 0 &&& my = 0 → lonW ns ks lk x y = some M[j]) := Lib.hid fun h0 => by
        rw [HE.out, List.find?_eq_some_iff_getElem]
        exact ⟨by simpa using h0, j, hlt, rfl, fun k hk => by simpa using HH.out k (by omega) hk⟩
      have HN3 : Hid (¬ (lk.getD M[j] 0 &&& my = 0) → ∀ k (hk : k < M.length), k < j + 1 → ¬ (lk.getD (M[k]'hk) 0 &&& my = 0)) := Lib.hid fun h0 k hk hkj => by
        by_cases e : k = j
        · subst e; exact h0
        · exact HH.out k hk (by omega)
      have hz := HL.out M[j]
      have and1 := i64_and_nat (lk.getD M[j] 0) my (by omega) (by omega)
      have pk := HPk2.out
      have pn := HPn.out
      generalize M[j] = s at *
      generalize lk.getD s 0 = a at *
      clear hoj hmj hvj eM
      by_cases h0 : a &&& my = 0
      · have HR := Lib.hid (HN2.out h0)
        rw [h0] at and1
        have h00 : (((0 : Nat) : Int) == 0) = true := rfl
        go_wp2
        go_quiet (fail)
        go_wp2
        go_ret
        exact ⟨by rw [HR.out]; rfl, by first | exact below_drewN HB.out _ | exact below_drewN (below_drewN HB.out _) _⟩
      · have HR := Lib.hid (HN3.out h0)
        have h00 : (((a &&& my : Nat) : Int) == 0) = false := by rw [beq_eq_false_iff_ne]; omega
        generalize a &&& my = r at *
        go_wp2
        go_quiet (fail)
        go_wp2
        go_roundw
        case rel => exact ⟨j + 1, by omega, by go_num, by first | exact ⟨_, rfl⟩ | exact ⟨_, World.drewN_drewN _ _ _⟩, HR.out⟩
        case measure => simp [intOf]; omega
    · obtain rfl : j = M.length := by omega
      have HR : Hid (lonW ns ks lk x y = none) := Lib.hid (by
        rw [HE.out, List.find?_eq_none]
        intro s hs
        obtain ⟨k, hk, rfl⟩ := List.getElem_of_mem hs
        simpa using HH.out k hk hk)
      go_wp2
      go_ret
      exact ⟨by rw [HR.out]; rfl, by first | exact below_drewN HB.out _ | exact below_drewN (below_drewN HB.out _) _⟩
/- Contracts of chapter 7, of the program: telling formulas. -/
/-- a list of lists, whose headers are the call's own and grow -/
def OwL {α : Type} (K : Cod α) (t : TypeId) (B : Nat) (w : World) (v : Value) (xss : List (List α)) : Prop :=
  ∃ hs : List Hd, Ow cH t B w v hs ∧ hs.length = xss.length ∧ ∀ i (a : i < hs.length) (b : i < xss.length), Sl K w hs[i].val xss[i] ∧ ∀ k, hs[i].val.ownBlock = some k → k < w.heap.size ∧ v.ownBlock ≠ some k
section
variable {α : Type} {K : Cod α} {t : TypeId} {B : Nat} {w w' : World} {v : Value} {xss : List (List α)}
theorem OwL.below (h : OwL K t B w v xss) (hb : Below w.heap.size w w') : OwL K t B w' v xss := by
  obtain ⟨hs, h1, h2, h3⟩ := h
  exact ⟨hs, h1.below hb, h2, fun i a b => ⟨(h3 i a b).1.below hb, fun k hk => ⟨Nat.lt_of_lt_of_le ((h3 i a b).2 k hk).1 hb.size, ((h3 i a b).2 k hk).2⟩⟩⟩
theorem OwL.sl2 (h : OwL K t B w v xss) : Sl2 K w v xss := by
  obtain ⟨hs, h1, h2, h3⟩ := h
  exact ⟨hs, h1.sl, h2, fun i a b => (h3 i a b).1⟩
theorem OwL.blk (h : OwL K t B w v xss) : ∀ k, v.ownBlock = some k → k < w.heap.size := by
  obtain ⟨hs, h1, -⟩ := h
  exact fun k hk => (h1.block k hk).2
theorem OwL.nil : OwL K t B w (.slice none 0 0) ([] : List (List α)) := ⟨[], Ow.nil _ _, rfl, fun i a => (by simp at a)⟩
theorem OwL.push (h : OwL K t B w v xss) {A : Option Addr} {n c : Nat} {row : List α} (hu : Sl K w (.slice A n c) row) (hk : ∀ k, (Value.slice A n c).ownBlock = some k → k < w.heap.size ∧ v.ownBlock ≠ some k) :
    ∃ hs : List Hd, Ow cH t B w v hs ∧ hs.length = xss.length ∧ ∀ w' v' W, w.grownBy W none → W.heap.size = w.heap.size + 1 → Ow cH t B w' v' (hs ++ [⟨A, n, c⟩]) → W.grownBy w' v.ownBlock →
      (v'.ownBlock = v.ownBlock ∨ v'.ownBlock = some (w.heap.size + 1)) → OwL K t B w' v' (xss ++ [row]) := by
  obtain ⟨hs, h1, h2, h3⟩ := h
  refine ⟨hs, h1, h2, fun w' v' W hw hWz ho hg hat => ?_⟩
  have hsz : w.heap.size < w'.heap.size := by have := hg.size; omega
  have key : ∀ (u : Value) (ys : List α), Sl K w u ys → (∀ k, u.ownBlock = some k → k < w.heap.size ∧ v.ownBlock ≠ some k) →
      Sl K w' u ys ∧ ∀ k, u.ownBlock = some k → k < w'.heap.size ∧ v'.ownBlock ≠ some k := by
    intro u ys hu hk
    refine ⟨(hu.grown hw ?_).grown hg ?_, fun k e => ⟨by have := (hk k e).1; omega, fun e3 => ?_⟩⟩
    · cases hq : u.ownBlock with
      | none => exact .inl rfl
      | some k => exact .inr (by simp)
    · cases hq : u.ownBlock with
      | none => exact .inl rfl
      | some k => exact .inr fun e => (hk k hq).2 e.symm
    · rcases hat with e2 | e2
      · exact (hk k e).2 (e2 ▸ e3)
      · rw [e2] at e3; injection e3 with e3; have := (hk k e).1; omega
  refine ⟨_, ho, by simp [h2], fun i a b => ?_⟩
  by_cases hi : i < hs.length
  · rw [List.getElem_append_left hi, List.getElem_append_left (by omega)]
    exact key _ _ (h3 i hi (by omega)).1 (h3 i hi (by omega)).2
  · have e : i = hs.length := by simp at a; omega
    subst e
    have e2 : (xss ++ [row])[hs.length] = row := by
      rw [List.getElem_append_right (by omega)]; simp [h2]
    have e3 : (hs ++ [(⟨A, n, c⟩ : Hd)])[hs.length] = ⟨A, n, c⟩ := by simp
    rw [e2, e3]
    exact key (.slice A n c) _ hu hk
end
theorem ty_nodes7 : Ty Tryz.prog 84 38 (.slice none 0 0) 1 24 := Ty.mk' Tryz.underlying84 (by kernel_rfl) rfl (by decide)
/-- what formula answers at two worlds -/
def FmOK (p : Nat) (ns us ks ts : List Nat) (A0 A1 B0 B1 L : Option Addr) (c0 c1 d0 d1 lc : Nat) (k : Nat) : Prop :=
  ∀ (x y k' : Nat) (w : World), Tl w p ns us ks ts A0 A1 B0 B1 L c0 c1 d0 d1 lc → x < ns.length → y < ks.length → rd ns us ks ts x y = some k' → k' ≤ k →
    Calls Tryz.prog 59 #[.pointer (some ⟨p, 0, none⟩), .int .i64 x, .int .i64 y] w fun e w' => ∃ u xs b, e = .returned (.tuple #[u, .bool b]) ∧ Ow cN 89 w.heap.size w' u xs ∧ xs.length ≤ 200 ∧ tab ns us ks ts k' x y = (if b then some xs else none) ∧ Below w.heap.size w w'
theorem joi_cons_none (md op : Int) (l : List (Option (List Nd))) (h : ∃ q ∈ l, q = none) : joi md op l = none := by
  unfold joi
  rw [if_neg]
  intro e
  obtain ⟨q, hq, rfl⟩ := h
  have := List.all_eq_true.1 e _ hq
  cases this
/-- the lengths of the lists that are there, summed -/
def smL (l : List (Option (List Nd))) : Nat := (l.filterMap id).flatten.length
theorem smL_snoc (l : List (Option (List Nd))) (xs : List Nd) : smL (l ++ [some xs]) = smL l + xs.length := by
  unfold smL; simp
theorem smL_le (l r : List (Option (List Nd))) : smL l ≤ smL (l ++ r) := by unfold smL; simp
theorem joi_big (md op : Int) (l : List (Option (List Nd))) (h : 40 < smL l) : joi md op l = none := by
  unfold joi
  split
  · rw [if_neg]
    unfold joinA
    have h1 : (l.filterMap id).flatten.length = smL l := rfl
    have h2 : ¬ (l.filterMap id).length = 0 := fun e => by
      rw [List.length_eq_zero_iff] at e
      rw [e] at h1
      simp at h1
      omega
    rw [if_neg h2, List.length_cons, joinL_length]
    omega
  · rfl
theorem impl_prefix7 (k : Int) (u : Value) (ys : List Nd) (w : World) (h' : Sl cN w u ys) (hl' : ys.length ≤ 262144) :
    Calls Tryz.prog 199 #[.int .i64 k, u] w fun e w' => ∃ r, e = .returned r ∧ Ow cN 89 w.heap.size w' r ((k, 0) :: ys) ∧ Below w.heap.size w w' := by
  obtain ⟨B, d, rfl⟩ := h'.opn
  have hs := Sl2.two' ((Ow.lit (K := cN) (e := 89) (B := w.heap.size) [(k, 0)] (cs := #[.int .i64 k, .int .i64 0]) (n := 1) rfl rfl (Nat.le_refl _)).sl) (h'.alloc (.cells #[.int .i64 k, .int .i64 0] 89)) 38 (w.heap.size + 1) (by simp)
  have H := Lib.hid (slices_Concat_nodes _ _ _ hs (by simp) (by simp <;> omega))
  clear h' hs
  go_enter Tryz.func199, Tryz.ntmps199
  go_wp2_with fail
  refine H.out.mono ?_
  rintro e w1 ⟨r, rfl, ho, hb⟩
  have HB : Hid (Below w.heap.size w w1) := Lib.hid ((((Below.refl _ _).alloc (Nat.le_refl _) _).alloc (by simp) _).trans (hb.mono (by simp <;> omega)))
  have O : Hid (Ow cN 89 w.heap.size w1 r ((k, 0) :: ys)) := Lib.hid (by have := ho.mono (B' := w.heap.size) (by simp <;> omega); simpa using this)
  clear ho hb
  go_wp2
  go_ret
  exact ⟨_, rfl, O.out, HB.out⟩
theorem map_some_all {l : List (Option (List Nd))} {xss : List (List Nd)} (h : l = xss.map some) : l.all Option.isSome = true ∧ l.filterMap id = xss := by
  subst h
  constructor
  · rw [List.all_eq_true]; intro q hq; obtain ⟨x, -, rfl⟩ := List.mem_map.1 hq; rfl
  · simp
theorem flat_ge (yss : List (List Nd)) (h : ∀ xs ∈ yss, 0 < xs.length) : yss.length ≤ yss.flatten.length := by
  induction yss with
  | nil => simp
  | cons a l ih =>
    have h1 := h a (by simp)
    have h2 := ih fun xs hxs => h xs (by simp [hxs])
    simp only [List.length_cons, List.flatten_cons, List.length_append]
    omega
theorem smL_some {xss : List (List Nd)} : smL (xss.map some) = xss.flatten.length := by unfold smL; simp
theorem li_at {w : World} {A : Option Addr} {n c : Nat} {X : List Nat} (h : Sl cI w (.slice A n c) (li X)) {k : Nat} (hk : k < X.length) :
    ∃ b o, A = some ⟨b, o, none⟩ ∧ b < w.heap.size ∧ w.cell? ⟨b, o + k, none⟩ = some (.int .i64 (X[k] : Nat)) := by
  obtain ⟨b, o, e, hb, hc⟩ := h.atI (k := k) (by rw [li_length]; exact hk)
  rw [li_get, show X.getD k 0 = X[k] by simp [List.getD_eq_getElem?_getD, hk]] at hc
  exact ⟨b, o, e, hb, hc⟩
set_option maxRecDepth 100000 in
set_option maxHeartbeats 1000000 in
theorem impl_joined (p : Nat) (ns us ks ts : List Nat) (A0 A1 B0 B1 L : Option Addr) (c0 c1 d0 d1 lc k : Nat) (hIH : FmOK p ns us ks ts A0 A1 B0 B1 L c0 c1 d0 d1 lc k) (md op : Int) (X Y : List Nat) (hX : ∀ x ∈ X, x < ns.length) (hY : ∀ y ∈ Y, y < ks.length)
    (hr : ∀ x ∈ X, ∀ y ∈ Y, ∃ k', k' ≤ k ∧ rd ns us ks ts x y = some k') (hXl : X.length ≤ 64) (hYl : Y.length ≤ 64) (vx vy : Value) (w : World) (h : Tl w p ns us ks ts A0 A1 B0 B1 L c0 c1 d0 d1 lc) (sx : Sl cI w vx (li X)) (sy : Sl cI w vy (li Y)) :
    Calls Tryz.prog 122 #[.pointer (some ⟨p, 0, none⟩), .int .i64 md, .int .i64 op, vx, vy] w fun e w' => ∃ u xs b, e = .returned (.tuple #[u, .bool b]) ∧ Ow cN 89 w.heap.size w' u xs ∧ xs.length ≤ 200 ∧
      joi md op (X.flatMap fun x => Y.map fun y => tab ns us ks ts k x y) = (if b then some xs else none) ∧ Below w.heap.size w w' := by
  obtain ⟨Ax, cx, rfl⟩ := sx.opn
  obtain ⟨Ay, cy, rfl⟩ := sy.opn
  rw [li_length] at sx sy
  rw [li_length, li_length]
  have HT := Lib.hid h
  have HX := Lib.hid hX
  have HY := Lib.hid hY
  have HRd := Lib.hid hr
  have HIH := Lib.hid hIH
  have HSx := Lib.hid sx
  have HSy := Lib.hid sy
  clear h hX hY hr hIH sx sy
  generalize hT : tab ns us ks ts k = T at *
  have HTab := Lib.hid hT
  clear hT
  go_enter Tryz.func122, Tryz.ntmps122
  go_wp2
  go_loopw [12, 13, 23] (fun q m i wr => ∃ j : Nat, j ≤ X.length ∧ i = .int .i64 j ∧ ∃ xss : List (List Nd), (X.take j).flatMap (fun x => Y.map fun y => T x y) = xss.map some ∧ m = .int .i64 (xss.flatten.length : Nat) ∧ xss.flatten.length ≤ 40 ∧ xss.length ≤ 40 ∧ OwL cN 38 w.heap.size wr q xss ∧ Below w.heap.size w wr) (fun _ _ i _ => X.length - (intOf i).toNat)
  case atStart => exact ⟨0, Nat.zero_le _, rfl, [], rfl, rfl, by simp, by simp, OwL.nil, Below.refl _ _⟩
  case round =>
    obtain ⟨i, hi, rfl, xss, hp, rfl, hs40, hl40, ho, hb⟩ := hrel
    have HP := Lib.hid hp
    have HO := Lib.hid ho
    have HB := Lib.hid hb
    by_cases hlt : i < X.length
    · have hsx := HSx.out
      obtain ⟨ba, oa, e1, hba, hca⟩ := li_at hsx hlt
      subst e1
      have hca' := (hb.cell (p := ⟨ba, oa + i, none⟩) hba).trans hca
      have hba' := Nat.lt_of_lt_of_le hba hb.size
      have HXi := Lib.hid (HX.out _ (List.getElem_mem hlt))
      have HRi := Lib.hid (HRd.out _ (List.getElem_mem hlt))
      have HXt : Hid (X.take (i + 1) = X.take i ++ [X[i]]) := Lib.hid (List.take_succ_eq_append_getElem hlt)
      have HXd : Hid (X = X.take i ++ X[i] :: X.drop (i + 1)) := Lib.hid (by rw [← List.drop_eq_getElem_cons hlt, List.take_append_drop])
      generalize X[i] = x at *
      clear hp ho hb hsx hca hba
      go_wp2
      go_loopw [12, 13, 29] (fun q m i' wr2 => ∃ j : Nat, j ≤ Y.length ∧ i' = .int .i64 j ∧ ∃ yss : List (List Nd), (X.take i).flatMap (fun x => Y.map fun y => T x y) ++ (Y.take j).map (fun y => T x y) = yss.map some ∧ m = .int .i64 (yss.flatten.length : Nat) ∧ yss.flatten.length ≤ 40 ∧ yss.length ≤ 40 ∧ OwL cN 38 w.heap.size wr2 q yss ∧ Below w.heap.size w wr2) (fun _ _ i _ => Y.length - (intOf i).toNat)
      case atStart => exact ⟨0, Nat.zero_le _, rfl, xss, by rw [HP.out]; simp, rfl, hs40, hl40, HO.out, HB.out⟩
      case round =>
        obtain ⟨j, hj, rfl, yss, hp, rfl, hy40, hyl40, ho, hb⟩ := hrel
        have HP2 := Lib.hid hp
        have HO2 := Lib.hid ho
        have HB2 := Lib.hid hb
        by_cases hltj : j < Y.length
        · have hsy := HSy.out
          obtain ⟨bb, ob, e2, hbb, hcb⟩ := li_at hsy hltj
          subst e2
          have hcb' := (hb.cell (p := ⟨bb, ob + j, none⟩) hbb).trans hcb
          have hbb' := Nat.lt_of_lt_of_le hbb hb.size
          obtain ⟨k', hk', hrd⟩ := HRi.out _ (List.getElem_mem hltj)
          have HF := Lib.hid (HIH.out x Y[j] k' _ (HT.out.below hb) HXi.out (HY.out _ (List.getElem_mem hltj)) hrd hk')
          have HTk : Hid (T x Y[j] = tab ns us ks ts k' x Y[j]) := Lib.hid (by rw [← HTab.out]; exact tab_at hrd k hk')
          have HYt : Hid (Y.take (j + 1) = Y.take j ++ [Y[j]]) := Lib.hid (List.take_succ_eq_append_getElem hltj)
          have HYd : Hid (Y = Y.take j ++ Y[j] :: Y.drop (j + 1)) := Lib.hid (by rw [← List.drop_eq_getElem_cons hltj, List.take_append_drop])
          generalize Y[j] = y at *
          clear hp ho hb hsy hcb hbb hrd
          have HMem : Hid (T x y ∈ X.flatMap fun x => Y.map fun y => T x y) := Lib.hid (List.mem_flatMap.2 ⟨x, by rw [HXd.out]; simp, List.mem_map.2 ⟨y, by rw [HYd.out]; simp, rfl⟩⟩)
          have HAll : Hid (∀ xs, T x y = some xs → 40 < yss.flatten.length + xs.length → joi md op (X.flatMap fun x => Y.map fun y => T x y) = none) := Lib.hid fun xs hxs hbig => by
            have e1 : (X.flatMap fun x => Y.map fun y => T x y) = (yss.map some ++ [some xs]) ++ ((Y.drop (j + 1)).map (fun y => T x y) ++ (X.drop (i + 1)).flatMap fun x => Y.map fun y => T x y) := by
              conv => lhs; rw [HXd.out]
              rw [List.flatMap_append, List.flatMap_cons]
              conv => lhs; rhs; lhs; rw [HYd.out]
              rw [List.map_append, List.map_cons, hxs, ← HP2.out]
              simp
            refine joi_big _ _ _ ?_
            rw [e1]
            refine Nat.lt_of_lt_of_le ?_ (smL_le _ _)
            rw [smL_snoc, smL_some]
            exact hbig
          have HSm : Hid (∀ xs : List Nd, (yss ++ [xs]).flatten.length = yss.flatten.length + xs.length) := Lib.hid fun xs => by simp
          have HYl : Hid (∀ xs : List Nd, (yss ++ [xs]).length = yss.length + 1) := Lib.hid fun xs => by simp
          have HLen : Hid (∀ xs, T x y = some xs → 0 < xs.length) := Lib.hid fun xs hxs => (tab_len k (by rw [HTab.out]; exact hxs)).1
          have HSum : Hid (yss.length ≤ yss.flatten.length) := Lib.hid (by
            have : ∀ xs ∈ yss, 0 < xs.length := fun xs hxs => by
              have hm : some xs ∈ yss.map some := List.mem_map.2 ⟨xs, hxs, rfl⟩
              rw [← HP2.out, List.mem_append] at hm
              rcases hm with hm | hm
              · obtain ⟨a, -, hm⟩ := List.mem_flatMap.1 hm
                obtain ⟨c, -, hm⟩ := List.mem_map.1 hm
                exact (tab_len k (by rw [HTab.out]; exact hm)).1
              · obtain ⟨c, -, hm⟩ := List.mem_map.1 hm
                exact (tab_len k (by rw [HTab.out]; exact hm)).1
            exact flat_ge yss this)
          have HLb := Lib.hid HO2.out.blk
          obtain ⟨sm, hsm⟩ : ∃ sm, yss.flatten.length = sm := ⟨_, rfl⟩
          rw [hsm] at HAll HSm HSum hy40 ⊢
          clear hsm
          go_wp2_with fail
          refine HF.out.mono ?_
          rintro e w2 ⟨u, xs, b, rfl, ou, hl200, htab, hbu⟩
          obtain ⟨Au, cu, rfl⟩ := ou.opn
          have HTx : Hid (T x y = if b then some xs else none) := Lib.hid (HTk.out.trans htab)
          have HOu := Lib.hid ou
          have HB3 := Lib.hid (bthen HB2.out hbu)
          have HO3 := Lib.hid (HO2.out.below hbu)
          have hlo : ∀ kk, (Value.slice Au xs.length cu).ownBlock = some kk → kk < w2.heap.size ∧ u12.ownBlock ≠ some kk := fun kk hkk => ⟨(ou.block kk hkk).2, fun e => by have h1 := HLb.out kk e; have h2 := (ou.block kk hkk).1; omega⟩
          have HLo := Lib.hid hlo
          clear hlo
          clear ou htab hbu
          cases b
          · have HJ : Hid (joi md op (X.flatMap fun x => Y.map fun y => T x y) = none) := Lib.hid (joi_cons_none _ _ _ ⟨_, HMem.out, by rw [HTx.out]; rfl⟩)
            go_wp2
            go_ret2
            exact ⟨_, [], false, rfl, Ow.nil _ _, by simp, HJ.out, HB3.out⟩
          · have HTs : Hid (T x y = some xs) := Lib.hid (by rw [HTx.out]; rfl)
            have hxl := HLen.out xs HTs.out
            by_cases hbig : 40 < sm + xs.length
            · have HJ := Lib.hid (HAll.out xs HTs.out hbig)
              go_wp2
              go_ret2
              exact ⟨_, [], false, rfl, Ow.nil _ _, by simp, HJ.out, HB3.out⟩
            · have HS1 := Lib.hid (HSm.out xs)
              have HY1 := Lib.hid (HYl.out xs)
              have hss := HSum.out
              have HPn : Hid ((X.take i).flatMap (fun x => Y.map fun y => T x y) ++ (Y.take (j + 1)).map (fun y => T x y) = (yss ++ [xs]).map some) := Lib.hid (by
                rw [HYt.out, List.map_append, ← List.append_assoc, HP2.out, List.map_append, List.map_singleton, HTs.out]; rfl)
              obtain ⟨hs7, h71, h72, h73⟩ := HO3.out.push HOu.out.sl HLo.out
              have H71 := Lib.hid h71
              have H73 := Lib.hid h73
              clear h71 h73
              go_wp2_with (at_builtin; refine stopHere ?_)
              refine goHere ?_
              refine ap_one (K := cH) _ ty_nodes7 rfl _ _ rfl (xs := hs7) rfl H71.out ⟨Au, xs.length, cu⟩ rfl rfl (by omega) HB3.out.size ?_
              intro v1 w6 ho1 hg1 hb1 hat1
              have HO6 : Hid (OwL cN 38 w.heap.size w6 v1 (yss ++ [xs])) := Lib.hid (H73.out w6 v1 _ (World.grownBy_alloc _ _ none) (by simp) ho1 hg1 hat1)
              have HB6 : Hid (Below w.heap.size w w6) := Lib.hid (HB3.out.trans hb1)
              clear ho1 hg1 hb1 hat1 H71 H73
              go_wp2
              go_roundw
              case rel => exact ⟨j + 1, by omega, by go_num, yss ++ [xs], HPn.out, by rw [HS1.out]; go_num, by rw [HS1.out]; omega, by rw [HY1.out]; omega, HO6.out, HB6.out⟩
              case measure => simp [intOf]; omega
        · obtain rfl : j = Y.length := by omega
          have HPn : Hid ((X.take (i + 1)).flatMap (fun x => Y.map fun y => T x y) = yss.map some) := Lib.hid (by
            rw [HXt.out, List.flatMap_append, List.flatMap_singleton, ← HP2.out, List.take_length])
          clear hp ho hb
          go_wp2
          go_roundw
          case rel => exact ⟨i + 1, by omega, by go_num, yss, HPn.out, rfl, hy40, hyl40, HO2.out, HB2.out⟩
          case measure => simp [intOf]; omega
    · obtain rfl : i = X.length := by omega
      have HPe : Hid (X.flatMap (fun x => Y.map fun y => T x y) = xss.map some) := Lib.hid (by rw [← HP.out, List.take_length])
      have HJ : Hid (joi md op (X.flatMap fun x => Y.map fun y => T x y) = if ((md, (0 : Int)) :: joinA op xss).length ≤ 40 then some ((md, 0) :: joinA op xss) else none) := Lib.hid (by
        obtain ⟨a1, a2⟩ := map_some_all HPe.out
        unfold joi
        rw [if_pos a1, a2])
      have HJA : Hid ((joinA op xss).length ≤ 100) := Lib.hid (by
        unfold joinA
        split
        · unfold joinE; split <;> simp
        · rw [joinL_length]; omega)
      have HCall : Hid (Calls Tryz.prog 200 #[.int .i64 op, u12] wr fun e w' => ∃ u, e = .returned u ∧ Ow cN 89 wr.heap.size w' u (joinA op xss) ∧ Below wr.heap.size wr w') := Lib.hid (by
        unfold joinA
        split
        · rename_i h0
          obtain rfl : xss = [] := List.length_eq_zero_iff.1 h0
          exact impl_joinAll_nil op _ wr ho.sl2
        · exact impl_joinAll op _ xss wr ho.sl2 (by omega) (by omega) (by omega))
      clear hp ho hb
      generalize joinA op xss = ja at *
      go_wp2_with fail
      refine HCall.out.mono ?_
      rintro e w2 ⟨u2, rfl, ho2, hb2⟩
      have HPre := Lib.hid (impl_prefix7 md u2 ja w2 ho2.sl (by have := HJA.out; omega))
      have HB2 := Lib.hid (bthen HB.out hb2)
      clear ho2 hb2
      go_wp2_with fail
      refine HPre.out.mono ?_
      rintro e w3 ⟨u3, rfl, ho3, hb3⟩
      obtain ⟨A3, c3, rfl⟩ := ho3.opn
      have HO3 := Lib.hid (ho3.mono HB2.out.size)
      have HB3 := Lib.hid (bthen HB2.out hb3)
      clear ho3 hb3
      have hjl := HJA.out
      have HL3 : Hid (((md, (0 : Int)) :: ja).length = ja.length + 1) := Lib.hid rfl
      by_cases h40 : ((md, (0 : Int)) :: ja).length ≤ 40
      · have HJ2 : Hid (joi md op (X.flatMap fun x => Y.map fun y => T x y) = some ((md, 0) :: ja)) := Lib.hid (by rw [HJ.out, if_pos h40])
        have hd : decide ((ja.length : Int) + 1 ≤ 40) = true := decide_eq_true (by have := HL3.out; omega)
        have HD := Lib.hid hd
        have hl2 : ((md, (0 : Int)) :: ja).length ≤ 200 := by omega
        clear h40
        go_wp2
        go_ret2
        exact ⟨_, (md, 0) :: ja, true, by rw [← HD.out]; rfl, HO3.out, hl2, HJ2.out, HB3.out⟩
      · have HJ2 : Hid (joi md op (X.flatMap fun x => Y.map fun y => T x y) = none) := Lib.hid (by rw [HJ.out, if_neg h40])
        have hd : decide ((ja.length : Int) + 1 ≤ 40) = false := decide_eq_false (by have := HL3.out; omega)
        have HD := Lib.hid hd
        have hl2 : ((md, (0 : Int)) :: ja).length ≤ 200 := by have := HL3.out; omega
        clear h40
        go_wp2
        go_ret2
        exact ⟨_, (md, 0) :: ja, false, by rw [← HD.out]; rfl, HO3.out, hl2, HJ2.out, HB3.out⟩
/- Contracts of chapter 7, of the program: the telling formula. -/
theorem i64_xor_nat (a b : Nat) (ha : a < 9223372036854775808) (hb : b < 9223372036854775808) : bits .xor .i64 (a : Int) (b : Int) = ((a ^^^ b : Nat) : Int) := by
  have hx : a ^^^ b < 2 ^ 63 := Nat.xor_lt_two_pow (by omega) (by omega)
  show IntKind.i64.wrap ((BitVec.ofInt 64 (a : Int) ^^^ BitVec.ofInt 64 (b : Int)).toNat : Int) = _
  rw [BitVec.toNat_xor, ofInt_i64 a ha, ofInt_i64 b hb, IntKind.wrap_i64]
  omega
theorem fm_one {α β : Type} (X : List α) (f : α → β) : (X.flatMap fun x => [f x]) = X.map f := by
  induction X with
  | nil => rfl
  | cons a l ih => rw [List.flatMap_cons, ih]; rfl
theorem mn_head {m v : Nat} (h : (List.range 64).find? m.testBit = some v) : ∃ r, mn m = v :: r := by
  unfold mn
  rw [← List.head?_filter] at h
  cases hl : (List.range 64).filter m.testBit with
  | nil => rw [hl] at h; cases h
  | cons a l => rw [hl] at h; injection h with h; subst h; exact ⟨l, rfl⟩
theorem dif_head {us ts : List Nat} {x y v : Nat} (h : dif us ts x y = some v) : ∃ r, mn (tru us x ^^^ tru ts y) = v :: r := by
  refine mn_head ?_
  unfold dif at h
  rw [List.find?_range_eq_some] at h ⊢
  have hb : ∀ i, (tru us x ^^^ tru ts y).testBit i = (decide (i < 6) && ((us.getD i 0).testBit x != (ts.getD i 0).testBit y)) := fun i => by
    rw [Nat.testBit_xor, tru, tru, msk_testBit, msk_testBit]
    by_cases hi : i < 6 <;> simp [hi]
  have hv := List.mem_range.1 h.2.1
  refine ⟨?_, List.mem_range.2 (by omega), fun i hi => ?_⟩
  · rw [hb, decide_eq_true hv, Bool.true_and]; exact h.1
  · have h4 := h.2.2 i hi
    rw [Bool.not_eq_true'] at h4
    rw [hb, h4, Bool.and_false]; rfl
theorem miss_head {ns ks lk : List Nat} {x y j : Nat} (h : miss ns ks lk x y = some j) : ∃ r, mn (andnot (ks.getD y 0) (img lk (ns.getD x 0))) = j :: r := by
  unfold miss at h
  rw [← List.head?_filter] at h
  have e : mn (andnot (ks.getD y 0) (img lk (ns.getD x 0))) = (mn (ks.getD y 0)).filter fun j => !(img lk (ns.getD x 0)).testBit j := by
    unfold mn
    rw [List.filter_filter]
    refine List.filter_congr fun i _ => ?_
    rw [andnot_testBit, Bool.and_comm]
  rw [e]
  cases hl : (mn (ks.getD y 0)).filter (fun j => !(img lk (ns.getD x 0)).testBit j) with
  | nil => rw [hl] at h; cases h
  | cons a l => rw [hl] at h; injection h with h; subst h; exact ⟨l, rfl⟩
theorem FmOK.mono {p : Nat} {ns us ks ts : List Nat} {A0 A1 B0 B1 L : Option Addr} {c0 c1 d0 d1 lc k m : Nat} (h : FmOK p ns us ks ts A0 A1 B0 B1 L c0 c1 d0 d1 lc k) (hm : m ≤ k) : FmOK p ns us ks ts A0 A1 B0 B1 L c0 c1 d0 d1 lc m :=
  fun x y k' w a b c d e => h x y k' w a b c d (Nat.le_trans e hm)
theorem impl_variable (v : Int) (w : World) :
    Calls Tryz.prog 119 #[.int .i64 v] w fun e w' => ∃ u, e = .returned u ∧ Ow cN 89 w.heap.size w' u [(0, v)] ∧ Below w.heap.size w w' := by
  have ho := Ow.lit (w := w) (K := cN) (e := 89) (B := w.heap.size) [(0, v)] (cs := #[.int .i64 0, .int .i64 v]) (n := 1) rfl rfl (Nat.le_refl _)
  have HO := Lib.hid ho
  have HB := Lib.hid (below_alloc' w (.cells #[.int .i64 0, .int .i64 v] 89))
  clear ho
  go_enter Tryz.func119, Tryz.ntmps119
  go_wp2
  go_ret
  exact ⟨_, rfl, HO.out, HB.out⟩
set_option maxRecDepth 100000 in
set_option maxHeartbeats 1000000 in
theorem impl_formula_zero (p : Nat) (ns us ks ts : List Nat) (A0 A1 B0 B1 L : Option Addr) (c0 c1 d0 d1 lc x y : Nat) (w : World) (h : Tl w p ns us ks ts A0 A1 B0 B1 L c0 c1 d0 d1 lc) (h1 : MdN ns us) (h2 : MdN ks ts) (hx : x < ns.length) (hy : y < ks.length) (hrd : rd ns us ks ts x y = some 0) :
    Calls Tryz.prog 59 #[.pointer (some ⟨p, 0, none⟩), .int .i64 x, .int .i64 y] w fun e w' => ∃ u xs b, e = .returned (.tuple #[u, .bool b]) ∧ Ow cN 89 w.heap.size w' u xs ∧ xs.length ≤ 200 ∧ tab ns us ks ts 0 x y = (if b then some xs else none) ∧ Below w.heap.size w w' := by
  have h8 := h1.r.1
  have hk8 := h2.r.1
  obtain ⟨v, hv⟩ := rd_zero hx hy hrd
  have HR := Lib.hid (impl_rounds p ns us ks ts A0 A1 B0 B1 L c0 c1 d0 d1 lc x y w h h1 h2 hx hy)
  rw [show rdI ns us ks ts x y = 0 by unfold rdI; rw [hrd]; rfl] at HR
  have HTab : Hid (tab ns us ks ts 0 x y = some (litF us v x)) := Lib.hid (by rw [tab, if_pos hrd, atomF, hv]; rfl)
  obtain ⟨r, hr⟩ := dif_head hv
  have HT := Lib.hid h
  have HT1 := Lib.hid (fun W (hW : Below w.heap.size w W) => impl_truths ns.length A0 ns.length c0 _ us x W ((h.below hW).m.u) h1.l h1.u256 (by omega))
  have HT2 := Lib.hid (fun W (hW : Below w.heap.size w W) => impl_truths ks.length B0 ks.length d0 _ ts y W ((h.below hW).n.u) h2.l h2.u256 (by omega))
  have ht1 : tru us x < 64 := msk_lt _ 6
  have ht2 : tru ts y < 64 := msk_lt _ 6
  have hx64 : tru us x ^^^ tru ts y < 64 := Nat.xor_lt_two_pow (n := 6) ht1 ht2
  have hv6 : v < 6 := by unfold dif at hv; rw [List.find?_range_eq_some] at hv; exact List.mem_range.1 hv.2.1
  have HXor := Lib.hid (i64_xor_nat (tru us x) (tru ts y) (by omega) (by omega))
  have HMem := Lib.hid (fun W => impl_membersOf (tru us x ^^^ tru ts y) W (by omega))
  rw [mems_mn, hr] at HMem
  have HHas := Lib.hid (fun W => impl_has (us.getD v 0) x W (by have := h1.u256 v; omega) (by omega))
  have HLit : Hid (litF us v x = if (us.getD v 0).testBit x then [(0, (v : Int))] else [(4, 0), (0, (v : Int)), (1, 0)]) := Lib.hid rfl
  have hl6 := h1.l
  clear h h1 h2 hrd hv hr
  generalize tru us x = t1 at *
  generalize tru ts y = t2 at *
  generalize t1 ^^^ t2 = t3 at *
  go_enter Tryz.func59, Tryz.ntmps59
  go_wp2_with fail
  refine HR.out.mono ?_
  rintro e w1 ⟨rfl, hb⟩
  have hT1 := HT.out.below hb
  have HTa := Lib.hid hT1
  have HB1 := Lib.hid hb
  have k0 : w1.cell? ⟨p, 0, none⟩ = some (.int .i64 ns.length) := hT1.blk.cell 0
  have k1 : w1.cell? ⟨p, 1, none⟩ = some (.slice A0 ns.length c0) := hT1.blk.cell 1
  have k2 : w1.cell? ⟨p, 2, none⟩ = some (.slice A1 6 c1) := hT1.blk.cell 2
  have k3 : w1.cell? ⟨p, 3, none⟩ = some (.int .i64 ks.length) := hT1.blk.cell 3
  have k4 : w1.cell? ⟨p, 4, none⟩ = some (.slice B0 ks.length d0) := hT1.blk.cell 4
  have k5 : w1.cell? ⟨p, 5, none⟩ = some (.slice B1 6 d1) := hT1.blk.cell 5
  have lp := hT1.blk.lt
  clear hT1 hb
  go_wp2
  refine wp_region_sched (Below w1.heap.size w1) 12 [0, 1, 2, 3, 4, 6, 7, 8, 9, 10] [0, 1, 2, 3, 4, 6, 7, 8, 9, 10, 5, 11] (by kernel_rfl) (by kernel_rfl) (Below.refl _ _).drew ?_
  repeat
    apply wpSched_q rfl rfl
    case h =>
      intro w' hI K hK
      have k0' := (hI.cell (p := ⟨p, 0, none⟩) lp).trans k0
      have k1' := (hI.cell (p := ⟨p, 1, none⟩) lp).trans k1
      have k2' := (hI.cell (p := ⟨p, 2, none⟩) lp).trans k2
      have k3' := (hI.cell (p := ⟨p, 3, none⟩) lp).trans k3
      have k4' := (hI.cell (p := ⟨p, 4, none⟩) lp).trans k4
      have k5' := (hI.cell (p := ⟨p, 5, none⟩) lp).trans k5
      simp only [quietV, stillV]
      go_simp
      exact hK
    go_simp
  refine wpSched_r rfl rfl ?_ (Below.refl _ _).drew
  intro K hK hI
  go_simp
  refine (HT1.out _ (bthen HB1.out hI)).mono ?_
  rintro e w2 ⟨rfl, hb⟩
  have hb2 := hI.trans (hb.mono hI.size)
  refine hK _ _ hb2 ?_
  clear hK K hb hI
  refine wpSched_r rfl rfl ?_ hb2
  intro K hK hI
  go_simp
  refine (HT2.out _ (bthen HB1.out hI)).mono ?_
  rintro e w3 ⟨rfl, hb⟩
  have hb3 := hI.trans (hb.mono hI.size)
  refine hK _ _ hb3 ?_
  clear hK K hb hI hb2
  refine wpSched_nil ?_
  try simp only [List.drop_succ_cons, List.drop_zero, List.drop_nil]
  have HB3 := Lib.hid (bthen HB1.out hb3)
  have xor1 := HXor.out
  clear hb3 k0 k1 k2 k3 k4 k5
  go_wp2_with fail
  refine (HMem.out _).mono ?_
  rintro e w4 ⟨u, rfl, ho, hb⟩
  obtain ⟨Au, cu, rfl⟩ := ho.opn
  rw [li_length] at ho ⊢
  obtain ⟨ba, oa, e1, hba, hca⟩ := li_at ho.sl (k := 0) (by simp)
  subst e1
  have hca0 : w4.cell? ⟨ba, oa, none⟩ = some (.int .i64 v) := hca
  have HB4 := Lib.hid (bthen HB3.out hb)
  have hT4 := HT.out.below HB4.out
  have k1 : w4.cell? ⟨p, 1, none⟩ = some (.slice A0 ns.length c0) := hT4.blk.cell 1
  have k2 : w4.cell? ⟨p, 2, none⟩ = some (.slice A1 6 c1) := hT4.blk.cell 2
  have lp4 := hT4.blk.lt
  have hus : Sl cI w4 (.slice A1 6 c1) (li us) := hT4.m.u
  obtain ⟨bu, ou, e2, hbu, hcu⟩ := li_at hus (k := v) (by rw [hl6]; exact hv6)
  subst e2
  have eu : us[v]'(by rw [hl6]; exact hv6) = us.getD v 0 := by simp [List.getD_eq_getElem?_getD, hl6, hv6]
  rw [eu] at hcu
  clear ho hb hT4 hus hca eu lp
  simp only [List.length_cons] at *
  have hrl : 0 < r.length + 1 := by omega
  generalize r.length + 1 = rl at *
  generalize us.getD v 0 = uv at *
  obtain ⟨z, hz⟩ : ∃ z, uv.testBit x = z := ⟨_, rfl⟩
  rw [hz] at HHas HLit
  clear hz
  have HVar := Lib.hid (fun W => impl_variable (v : Int) W)
  generalize litF us v x = lf at *
  cases z
  · go_wp2_with fail
    refine (HHas.out _).mono ?_
    rintro e w5 ⟨rfl, rfl⟩
    go_wp2_with fail
    refine (HVar.out _).mono ?_
    rintro e w6 ⟨u6, rfl, ho6, hb6⟩
    have HNeg := Lib.hid (impl_negation u6 _ w6 ho6.sl (by simp))
    have HB6 := Lib.hid (bthen HB4.out hb6)
    clear ho6 hb6 hca0 k1 k2 hcu
    go_wp2_with fail
    refine HNeg.out.mono ?_
    rintro e w7 ⟨u7, rfl, ho7, hb7⟩
    obtain ⟨A7, c7, rfl⟩ := ho7.opn
    have HO7 := Lib.hid (ho7.mono HB6.out.size)
    have HB7 := Lib.hid (bthen HB6.out hb7)
    clear ho7 hb7
    go_wp2
    go_ret2
    exact ⟨_, _, true, rfl, HO7.out, by simp, by rw [HTab.out, HLit.out]; rfl, HB7.out⟩
  · go_wp2_with fail
    refine (HHas.out _).mono ?_
    rintro e w5 ⟨rfl, rfl⟩
    go_wp2_with fail
    refine (HVar.out _).mono ?_
    rintro e w6 ⟨u6, rfl, ho6, hb6⟩
    obtain ⟨A7, c7, rfl⟩ := ho6.opn
    have HO7 := Lib.hid (ho6.mono HB4.out.size)
    have HB7 := Lib.hid (bthen HB4.out hb6)
    clear ho6 hb6 hca0 k1 k2 hcu
    go_wp2
    go_ret2
    exact ⟨_, _, true, rfl, HO7.out, by simp, by rw [HTab.out, HLit.out]; rfl, HB7.out⟩
theorem li_one {w : World} {B : Nat} (s : Nat) (e : TypeId) (hB : B ≤ w.heap.size) : Sl cI (w.alloc (.cells #[.int .i64 (s : Int)] e)) (.slice (some ⟨w.heap.size, 0, none⟩) 1 1) (li [s]) :=
  (Ow.lit (w := w) (K := cI) (e := e) (B := B) (li [s]) (cs := #[.int .i64 (s : Int)]) (n := 1) rfl rfl hB (by show 1 ≤ 1073741824; omega)).sl
set_option maxRecDepth 100000 in
set_option maxHeartbeats 1000000 in
theorem impl_formula_succ (p : Nat) (ns us ks ts : List Nat) (A0 A1 B0 B1 L : Option Addr) (c0 c1 d0 d1 lc κ x y : Nat) (hIH : FmOK p ns us ks ts A0 A1 B0 B1 L c0 c1 d0 d1 lc κ) (w : World) (h : Tl w p ns us ks ts A0 A1 B0 B1 L c0 c1 d0 d1 lc) (h1 : MdN ns us) (h2 : MdN ks ts) (hx : x < ns.length) (hy : y < ks.length) (hrd : rd ns us ks ts x y = some (κ + 1)) :
    Calls Tryz.prog 59 #[.pointer (some ⟨p, 0, none⟩), .int .i64 x, .int .i64 y] w fun e w' => ∃ u xs b, e = .returned (.tuple #[u, .bool b]) ∧ Ow cN 89 w.heap.size w' u xs ∧ xs.length ≤ 200 ∧ tab ns us ks ts (κ + 1) x y = (if b then some xs else none) ∧ Below w.heap.size w w' := by
  have h8 := h1.r.1
  have hk8 := h2.r.1
  obtain ⟨hκ, -, -⟩ := rd_spec hrd
  have HR := Lib.hid (impl_rounds p ns us ks ts A0 A1 B0 B1 L c0 c1 d0 d1 lc x y w h h1 h2 hx hy)
  rw [show rdI ns us ks ts x y = ((κ + 1 : Nat) : Int) by unfold rdI; rw [hrd]] at HR
  have HTab : Hid (tab ns us ks ts (κ + 1) x y = tstep ns us ks ts (tab ns us ks ts κ) κ x y) := Lib.hid (by rw [tab, if_pos hrd])
  have HT := Lib.hid h
  have HLone := Lib.hid (fun v W (hW : Below w.heap.size w W) (hv : Sl cI W v (li (bnd ns us ks ts κ))) => impl_lonely p ns us ks ts (bnd ns us ks ts κ) A0 A1 B0 B1 L c0 c1 d0 d1 lc x y v W (h.below hW) h1 h2 hx hy hv (bnd_length _ _ _ _ _) (bnd_256 hk8 κ))
  have hmn := h1.n256 x
  have hmk := h2.n256 y
  have hnx : ns.getD x 0 < 2 ^ ns.length := getD_lt h1.r.2 x
  have hky : ks.getD y 0 < 2 ^ ks.length := getD_lt h2.r.2 y
  have HMn := Lib.hid (fun W => impl_membersOf (ns.getD x 0) W (by omega))
  have HMk := Lib.hid (fun W => impl_membersOf (ks.getD y 0) W (by omega))
  rw [mems_mn] at HMn HMk
  have HNx : Hid (∀ i ∈ mn (ns.getD x 0), i < ns.length) := Lib.hid fun i hi => bit_lt hnx (mn_mem.1 hi).2
  have HKy : Hid (∀ i ∈ mn (ks.getD y 0), i < ks.length) := Lib.hid fun i hi => bit_lt hky (mn_mem.1 hi).2
  have HIH := Lib.hid hIH
  have HLn := Lib.hid (mn_len (ns.getD x 0))
  have HLk := Lib.hid (mn_len (ks.getD y 0))
  go_enter Tryz.func59, Tryz.ntmps59
  go_wp2_with fail
  refine HR.out.mono ?_
  rintro e w1 ⟨rfl, hb⟩
  have hT1 := HT.out.below hb
  have HB1 := Lib.hid hb
  have k6 : w1.cell? ⟨p, 6, none⟩ = some (.slice L 17 lc) := hT1.blk.cell 6
  have lp := hT1.blk.lt
  have hll := hT1.l
  obtain ⟨bl, ol, Ai, ni, ci, e1, hbl, hcl, hsl⟩ := hll.at_ (k := κ) (by rw [bdL_length]; omega)
  subst e1
  rw [bdL_get] at hsl
  obtain ⟨Ai', ci', e2⟩ := hsl.opn
  rw [li_length, bnd_length] at e2
  obtain ⟨rfl, rfl, rfl⟩ : Ai = Ai' ∧ ni = ns.length ∧ ci = ci' := by injection e2 with a1 a2 a3; exact ⟨a1, a2, a3⟩
  have HSl := Lib.hid hsl
  have HT1 := Lib.hid hT1
  have HSt : Hid (∀ s, lonW ns ks (bnd ns us ks ts κ) x y = some s → tab ns us ks ts (κ + 1) x y = joi 6 2 ([s].flatMap fun a => (mn (ks.getD y 0)).map fun b => tab ns us ks ts κ a b)) := Lib.hid fun s hs => by
    rw [HTab.out, tstep, hs]
    simp
  have HSn : Hid (lonW ns ks (bnd ns us ks ts κ) x y = none → ∃ j, miss ns ks (bnd ns us ks ts κ) x y = some j ∧ tab ns us ks ts (κ + 1) x y = joi 5 3 ((mn (ns.getD x 0)).flatMap fun a => [j].map fun b => tab ns us ks ts κ a b)) := Lib.hid fun hn => by
    obtain ⟨j, hj⟩ := rd_succ h1.r.2 h2.r.2 h8 hk8 hx hy hrd hn
    refine ⟨j, hj, ?_⟩
    rw [HTab.out, tstep, hn]
    dsimp only
    rw [hj]
    exact (congrArg (joi 5 3) (fm_one (mn (ns.getD x 0)) fun i => tab ns us ks ts κ i j)).symm
  have HMs : Hid (∀ j, miss ns ks (bnd ns us ks ts κ) x y = some j → (∃ r, mn (andnot (ks.getD y 0) (img (bnd ns us ks ts κ) (ns.getD x 0))) = j :: r) ∧ j < ks.length ∧ ∀ i ∈ mn (ns.getD x 0), ∃ k', k' ≤ κ ∧ rd ns us ks ts i j = some k') := Lib.hid fun j hj => by
    have h5 := miss_some (by omega) (by omega) h1.r.2 hj
    exact ⟨miss_head hj, bit_lt hky h5.2.1, h5.2.2⟩
  have HLs : Hid (∀ s, lonW ns ks (bnd ns us ks ts κ) x y = some s → s < ns.length ∧ ∀ j ∈ mn (ks.getD y 0), ∃ k', k' ≤ κ ∧ rd ns us ks ts s j = some k') := Lib.hid fun s hs => by
    have h5 := lonW_some (k := κ) (by omega) hs
    exact ⟨bit_lt hnx h5.2.1, h5.2.2⟩
  have HImg := Lib.hid (fun v W (hv : Sl cI W v (li (bnd ns us ks ts κ))) => impl_image v (bnd ns us ks ts κ) (ns.getD x 0) W hv (by rw [bnd_length]; exact h8) (fun a ha => Nat.lt_of_lt_of_le (bnd_lt ns us ks ts κ a ha) (Nat.pow_le_pow_right (by decide) hk8)) (by rw [bnd_length]; exact hnx))
  have hal : andnot (ks.getD y 0) (img (bnd ns us ks ts κ) (ns.getD x 0)) < 256 := Nat.lt_of_lt_of_le (andnot_lt hky) (two_pow_256 hk8)
  have himg : img (bnd ns us ks ts κ) (ns.getD x 0) < 9223372036854775808 := by
    have := imgTo_lt (k := 8) (fun a ha => Nat.lt_of_lt_of_le (bnd_lt ns us ks ts κ a ha) (Nat.pow_le_pow_right (by decide) hk8)) (ns.getD x 0) (bnd ns us ks ts κ).length
    unfold img
    omega
  have HEx : Hid (ns[x]'hx = ns.getD x 0) := Lib.hid (by simp [List.getD_eq_getElem?_getD, hx])
  have HEy : Hid (ks[y]'hy = ks.getD y 0) := Lib.hid (by simp [List.getD_eq_getElem?_getD, hy])
  have HAn := Lib.hid (i64_andNot_nat (ks.getD y 0) (img (bnd ns us ks ts κ) (ns.getD x 0)) (by omega) himg)
  have HMa := Lib.hid (fun W => impl_membersOf (andnot (ks.getD y 0) (img (bnd ns us ks ts κ) (ns.getD x 0))) W (by omega))
  rw [mems_mn] at HMa
  clear e2 hb hll hT1 hsl HT HTab h h1 h2 hIH hnx hky hrd
  generalize img (bnd ns us ks ts κ) (ns.getD x 0) = im at *
  generalize ns.getD x 0 = mx at *
  generalize ks.getD y 0 = my at *
  generalize bnd ns us ks ts κ = lk at *
  go_wp2_with fail
  refine (HLone.out _ w1 HB1.out HSl.out).mono ?_
  rintro e w2 ⟨rfl, hb⟩
  have HB2 := Lib.hid (bthen HB1.out hb)
  have hT2 := HT1.out.below hb
  have HT2 := Lib.hid hT2
  have HSl2 := Lib.hid (HSl.out.below hb)
  clear hb k6 hcl lp
  cases hlo : lonW ns ks lk x y with
  | some s =>
    obtain ⟨hsn, hsr⟩ := HLs.out s hlo
    have HJt := Lib.hid (HSt.out s hlo)
    have k4 : w2.cell? ⟨p, 4, none⟩ = some (.slice B0 ks.length d0) := hT2.blk.cell 4
    have lp := hT2.blk.lt
    have hna := hT2.n.a
    obtain ⟨bk, ok, e3, hbk, hck⟩ := li_at hna hy
    subst e3
    rw [HEy.out] at hck
    have HBa := Lib.hid (below_alloc' w2 (.cells #[.int .i64 (s : Int)] 2))
    have HSx := Lib.hid (li_one (w := w2) s 2 (Nat.le_refl _))
    have HSr := Lib.hid hsr
    rw [show oI (some s) = (s : Int) from rfl]
    clear hT2 hna hlo hsr
    go_wp2_with fail
    refine (HMk.out _).mono ?_
    rintro e w4 ⟨u4, rfl, ho4, hb4⟩
    obtain ⟨A4, c4, rfl⟩ := ho4.opn
    rw [li_length] at ho4 ⊢
    have HB4 := Lib.hid (bthen (bthen HB2.out HBa.out) hb4)
    have HJ := Lib.hid (impl_joined p ns us ks ts A0 A1 _ B1 _ c0 c1 d0 d1 lc κ HIH.out 6 2 [s] (mn my) (fun a ha => by rw [List.mem_singleton] at ha; subst ha; exact hsn) HKy.out (fun a ha => by rw [List.mem_singleton] at ha; subst ha; exact HSr.out) (by simp) HLk.out _ _ w4 ((HT2.out.below HBa.out).below hb4) (HSx.out.below hb4) ho4.sl)
    clear ho4 hb4 k4 hck
    go_wp2_with fail
    refine HJ.out.mono ?_
    rintro e w5 ⟨u5, xs, b, rfl, ho5, hl5, hj5, hb5⟩
    obtain ⟨A5, c5, rfl⟩ := ho5.opn
    have HO5 := Lib.hid (ho5.mono HB4.out.size)
    have HB5 := Lib.hid (bthen HB4.out hb5)
    have HJ5 := Lib.hid (HJt.out.trans hj5)
    clear ho5 hb5 hj5
    go_wp2
    go_ret2
    exact ⟨_, xs, b, rfl, HO5.out, hl5, HJ5.out, HB5.out⟩
  | none =>
    obtain ⟨j, hmj, hJt⟩ := HSn.out hlo
    have HJt := Lib.hid hJt
    obtain ⟨⟨r, hr⟩, hjk, hjr⟩ := HMs.out j hmj
    have HJr := Lib.hid hjr
    rw [hr] at HMa
    have k4 : w2.cell? ⟨p, 4, none⟩ = some (.slice B0 ks.length d0) := hT2.blk.cell 4
    have k1 : w2.cell? ⟨p, 1, none⟩ = some (.slice A0 ns.length c0) := hT2.blk.cell 1
    have lp := hT2.blk.lt
    have hma := hT2.m.a
    obtain ⟨bm, om, e4, hbm, hcm⟩ := li_at hma hx
    subst e4
    rw [HEx.out] at hcm
    rw [show oI none = -1 from rfl]
    clear hT2 hma hlo hmj hJt hr hjr
    go_wp2_with fail
    refine (HImg.out _ w2 HSl2.out).mono ?_
    rintro e w3 ⟨rfl, hb⟩
    have HB3 := Lib.hid (bthen HB2.out hb)
    have hT3 := HT2.out.below hb
    have HT3 := Lib.hid hT3
    have k4 : w3.cell? ⟨p, 4, none⟩ = some (.slice B0 ks.length d0) := hT3.blk.cell 4
    have lp := hT3.blk.lt
    have hna := hT3.n.a
    obtain ⟨bk, ok, e3, hbk, hck⟩ := li_at hna hy
    subst e3
    rw [HEy.out] at hck
    have an1 := HAn.out
    clear hT3 hna hb k1 hcm hbm
    go_wp2_with fail
    refine (HMa.out _).mono ?_
    rintro e w4 ⟨u4, rfl, ho4, hb4⟩
    obtain ⟨A4, c4, rfl⟩ := ho4.opn
    rw [li_length] at ho4 ⊢
    obtain ⟨ba, oa, e5, hba, hca⟩ := li_at ho4.sl (k := 0) (by simp)
    subst e5
    have hca0 : w4.cell? ⟨ba, oa, none⟩ = some (.int .i64 j) := hca
    have HB4 := Lib.hid (bthen HB3.out hb4)
    have hT4 := HT3.out.below hb4
    have HT4 := Lib.hid hT4
    have k1 : w4.cell? ⟨p, 1, none⟩ = some (.slice (some ⟨bm, om, none⟩) ns.length c0) := hT4.blk.cell 1
    have lp := hT4.blk.lt
    have hma := hT4.m.a
    obtain ⟨bm', om', e4, hbm, hcm⟩ := li_at hma hx
    obtain ⟨rfl, rfl⟩ : bm = bm' ∧ om = om' := by injection e4 with e4; injection e4 with a1 a2; exact ⟨a1, a2⟩
    rw [HEx.out] at hcm
    clear ho4 hb4 k4 hck hT4 hma e4 hca
    simp only [List.length_cons] at *
    have hrl : 0 < r.length + 1 := by omega
    generalize r.length + 1 = rl at *
    go_wp2_with fail
    refine (HMn.out _).mono ?_
    rintro e w5 ⟨u5, rfl, ho5, hb5⟩
    obtain ⟨A5, c5, rfl⟩ := ho5.opn
    rw [li_length] at ho5 ⊢
    have HB5 := Lib.hid (bthen HB4.out hb5)
    have HT5 := Lib.hid (HT4.out.below hb5)
    have HBa := Lib.hid (below_alloc' w5 (.cells #[.int .i64 (j : Int)] 2))
    have HSx := Lib.hid (li_one (w := w5) j 2 (Nat.le_refl _))
    have HO5 := Lib.hid ho5.sl
    have HJ := Lib.hid (impl_joined p ns us ks ts _ A1 _ B1 _ c0 c1 d0 d1 lc κ HIH.out 5 3 (mn mx) [j] HNx.out (fun a ha => by rw [List.mem_singleton] at ha; subst ha; exact hjk) (fun i hi a ha => by rw [List.mem_singleton] at ha; subst ha; exact HJr.out i hi) HLn.out (by simp) _ _ (w5.alloc (.cells #[.int .i64 (j : Int)] 2)) (HT5.out.below HBa.out) (HO5.out.below HBa.out) HSx.out)
    have HB6 := Lib.hid (bthen HB5.out HBa.out)
    clear ho5 hb5 k1 hcm hca0
    go_wp2_with fail
    refine HJ.out.mono ?_
    rintro e w6 ⟨u6, xs, b, rfl, ho6, hl6, hj6, hb6⟩
    obtain ⟨A6, c6, rfl⟩ := ho6.opn
    have HO6 := Lib.hid (ho6.mono HB6.out.size)
    have HB7 := Lib.hid (bthen HB6.out hb6)
    have HJ6 := Lib.hid (HJt.out.trans hj6)
    clear ho6 hb6 hj6
    go_wp2
    go_ret2
    exact ⟨_, xs, b, rfl, HO6.out, hl6, HJ6.out, HB7.out⟩
/- TellingFormula of the program. -/
theorem fm_all (p : Nat) (ns us ks ts : List Nat) (A0 A1 B0 B1 L : Option Addr) (c0 c1 d0 d1 lc : Nat) (h1 : MdN ns us) (h2 : MdN ks ts) : ∀ k, FmOK p ns us ks ts A0 A1 B0 B1 L c0 c1 d0 d1 lc k
  | 0 => fun x y k' w h hx hy hrd hk => by
    obtain rfl : k' = 0 := by omega
    exact impl_formula_zero p ns us ks ts A0 A1 B0 B1 L c0 c1 d0 d1 lc x y w h h1 h2 hx hy hrd
  | k + 1 => fun x y k' w h hx hy hrd hk => by
    cases k' with
    | zero => exact impl_formula_zero p ns us ks ts A0 A1 B0 B1 L c0 c1 d0 d1 lc x y w h h1 h2 hx hy hrd
    | succ κ => exact impl_formula_succ p ns us ks ts A0 A1 B0 B1 L c0 c1 d0 d1 lc κ x y ((fm_all p ns us ks ts A0 A1 B0 B1 L c0 c1 d0 d1 lc h1 h2 k).mono (by omega)) w h h1 h2 hx hy hrd
/-- the answer: a formula and a code -/
def tres (ns us ks ts : List Nat) (x y : Nat) : List Nd × Int := match rd ns us ks ts x y with
  | none => ([], 4)
  | some k => match tab ns us ks ts k x y with
    | none => ([], 3)
    | some xs => (xs, 0)
theorem tres_len (ns us ks ts : List Nat) (x y : Nat) : (tres ns us ks ts x y).1.length ≤ 40 := by
  unfold tres
  split
  · simp
  · split
    · simp
    · rename_i h; exact (tab_len _ h).2
set_option maxRecDepth 100000 in
theorem impl_TellingFormula_bad (n x k y : Int) (va vu vb vt : Value) (xs vs ys ts : List Int) (w : World) (ha : Sl cI w va xs) (hu : Sl cI w vu vs) (hb : Sl cI w vb ys) (ht : Sl cI w vt ts) (hl : xs.length + vs.length ≤ 1048576) (hl' : ys.length + ts.length ≤ 1048576) (hc : tcode n xs vs x k ys ts y ≠ 0) :
    Calls Tryz.prog 21 #[.agg #[.int .i64 n, va, vu], .int .i64 x, .agg #[.int .i64 k, vb, vt], .int .i64 y] w fun e w' => e = .returned (.tuple #[.slice none 0 0, .int .i64 (tcode n xs vs x k ys ts y)]) ∧ Below w.heap.size w w' := by
  obtain ⟨A0, c0, rfl⟩ := ha.opn
  obtain ⟨A1, c1, rfl⟩ := hu.opn
  obtain ⟨B0, d0, rfl⟩ := hb.opn
  obtain ⟨B1, d1, rfl⟩ := ht.opn
  have hb0 := below_alloc' w (.cells #[.int .i64 n, .slice A0 xs.length c0, .slice A1 vs.length c1] 28)
  have hk0 := Blk.new w 28 #[.int .i64 n, .slice A0 xs.length c0, .slice A1 vs.length c1]
  have hb1 := below_alloc' (w.alloc (.cells #[.int .i64 n, .slice A0 xs.length c0, .slice A1 vs.length c1] 28)) (.cells #[.int .i64 k, .slice B0 ys.length d0, .slice B1 ts.length d1] 28)
  have hk1 : Blk _ (w.heap.size + 1) _ _ := Blk.new' (w.alloc (.cells #[.int .i64 n, .slice A0 xs.length c0, .slice A1 vs.length c1] 28)) 28 #[.int .i64 k, .slice B0 ys.length d0, .slice B1 ts.length d1] (by simp)
  have hbb := bthen hb0 hb1
  have HB := Lib.hid hbb
  have HK0 := Lib.hid (hk0.below hb1 hk0.lt)
  have HK1 := Lib.hid hk1
  have HC := Lib.hid (fun W (hW : Below w.heap.size w W) => impl_tellingCode n x k y _ _ _ _ xs vs ys ts W (ha.below hW) (hu.below hW) (hb.below hW) (ht.below hW) hl hl')
  have hc' : (tcode n xs vs x k ys ts y != 0) = true := by simpa using hc
  generalize tcode n xs vs x k ys ts y = q at *
  clear hb0 hb1 hk0 hk1 hbb ha hu hb ht hc
  go_enter Tryz.func21, Tryz.ntmps21
  go_upto_region 1 with fail
  generalize World.alloc (w.alloc _) _ = W at *
  have k0 := HK0.out.cell
  have k1 := HK1.out.cell
  have l0 := HK0.out.lt
  have l1 := HK1.out.lt
  go_wp2_with fail
  refine (HC.out _ HB.out).mono ?_
  rintro e w1 ⟨rfl, hb⟩
  have HB1 := Lib.hid (bthen HB.out hb)
  clear hb k0 k1 l0 l1
  go_wp2
  go_ret2
  exact ⟨rfl, HB1.out⟩
set_option maxRecDepth 100000 in
theorem impl_TellingFormula_ok (ns us ks ts : List Nat) (x y : Nat) (A0 A1 B0 B1 : Option Addr) (c0 c1 d0 d1 : Nat) (w : World) (hm : Mdl w (.slice A0 ns.length c0) (.slice A1 6 c1) ns us) (hm2 : Mdl w (.slice B0 ks.length d0) (.slice B1 6 d1) ks ts) (h1 : MdN ns us) (h2 : MdN ks ts) (hc : tcode ns.length (li ns) (li us) x ks.length (li ks) (li ts) y = 0) (hx : x < ns.length) (hy : y < ks.length) :
    Calls Tryz.prog 21 #[.agg #[.int .i64 ns.length, .slice A0 ns.length c0, .slice A1 6 c1], .int .i64 x, .agg #[.int .i64 ks.length, .slice B0 ks.length d0, .slice B1 6 d1], .int .i64 y] w fun e w' => ∃ u, e = .returned (.tuple #[u, .int .i64 (tres ns us ks ts x y).2]) ∧ Ow cN 89 w.heap.size w' u (tres ns us ks ts x y).1 ∧ Below w.heap.size w w' := by
  have h8 := h1.r.1
  have hk8 := h2.r.1
  have hb0 := below_alloc' w (.cells #[.int .i64 ns.length, .slice A0 ns.length c0, .slice A1 6 c1] 28)
  have hk0 := Blk.new w 28 #[.int .i64 ns.length, .slice A0 ns.length c0, .slice A1 6 c1]
  have hb1 := below_alloc' (w.alloc (.cells #[.int .i64 ns.length, .slice A0 ns.length c0, .slice A1 6 c1] 28)) (.cells #[.int .i64 ks.length, .slice B0 ks.length d0, .slice B1 6 d1] 28)
  have hk1 : Blk _ (w.heap.size + 1) _ _ := Blk.new' (w.alloc (.cells #[.int .i64 ns.length, .slice A0 ns.length c0, .slice A1 6 c1] 28)) 28 #[.int .i64 ks.length, .slice B0 ks.length d0, .slice B1 6 d1] (by simp)
  have HB := Lib.hid (bthen hb0 hb1)
  have HK0 := Lib.hid (hk0.below hb1 hk0.lt)
  have HK1 := Lib.hid hk1
  have HC := Lib.hid (fun W (hW : Below w.heap.size w W) => hc ▸ impl_tellingCode ns.length x ks.length y _ _ _ _ (li ns) (li us) (li ks) (li ts) W (hm.a.below hW) (hm.u.below hW) (hm2.a.below hW) (hm2.u.below hW) (by rw [li_length, li_length, h1.l]; omega) (by rw [li_length, li_length, h2.l]; omega))
  have HNew := Lib.hid (fun W (hW : Below w.heap.size w W) => impl_newTeller ns us ks ts A0 A1 B0 B1 c0 c1 d0 d1 W (hm.below hW) (hm2.below hW) h1 h2)
  have HRo := Lib.hid (fun p L lc W hT => impl_rounds p ns us ks ts A0 A1 B0 B1 L c0 c1 d0 d1 lc x y W hT h1 h2 hx hy)
  have HFm := Lib.hid (fun p L lc k W hT hrd => fm_all p ns us ks ts A0 A1 B0 B1 L c0 c1 d0 d1 lc h1 h2 k x y k W hT hx hy hrd (Nat.le_refl _))
  have HRes : Hid (tres ns us ks ts x y = match rd ns us ks ts x y with
    | none => ([], 4)
    | some k => match tab ns us ks ts k x y with
      | none => ([], 3)
      | some xs => (xs, 0)) := Lib.hid rfl
  have HRI : Hid (rdI ns us ks ts x y = oI (rd ns us ks ts x y)) := Lib.hid (by unfold rdI oI; rfl)
  clear hb0 hb1 hk0 hk1 hm hm2 h1 h2 hc
  generalize tres ns us ks ts x y = R at *
  obtain ⟨R1, R2⟩ := R
  dsimp only
  go_enter Tryz.func21, Tryz.ntmps21
  go_upto_region 1 with fail
  generalize World.alloc (w.alloc _) _ = W at *
  have k0 := HK0.out.cell
  have k1 := HK1.out.cell
  have l0 := HK0.out.lt
  have l1 := HK1.out.lt
  go_wp2_with fail
  refine (HC.out _ HB.out).mono ?_
  rintro e w1 ⟨rfl, hb⟩
  have HB1 := Lib.hid (bthen HB.out hb)
  have HK2 := Lib.hid (HK0.out.below hb HK0.out.lt)
  have HK3 := Lib.hid (HK1.out.below hb HK1.out.lt)
  clear hb k0 k1 l0 l1
  have k0 := HK2.out.cell
  have k1 := HK3.out.cell
  have l0 := HK2.out.lt
  have l1 := HK3.out.lt
  go_wp2_with fail
  refine (HNew.out _ HB1.out).mono ?_
  rintro e w2 ⟨p, L, lc, rfl, hT, hb⟩
  have HB2 := Lib.hid (bthen HB1.out hb)
  have HT := Lib.hid hT
  clear hb k0 k1 l0 l1 hT
  go_wp2_with fail
  refine (HRo.out _ _ _ _ HT.out).mono ?_
  rintro e w3 ⟨rfl, hb⟩
  have HB3 := Lib.hid (bthen HB2.out hb)
  have HT3 := Lib.hid (HT.out.below hb)
  clear hb
  rw [HRI.out]
  cases hrd : rd ns us ks ts x y with
  | none =>
    have HE : Hid ((R1, R2) = (([] : List Nd), (4 : Int))) := Lib.hid (by rw [HRes.out, hrd])
    obtain ⟨rfl, rfl⟩ : R1 = [] ∧ R2 = 4 := by have := HE.out; injection this with a1 a2; exact ⟨a1, a2⟩
    rw [show oI none = -1 from rfl]
    clear hrd HRes HE
    go_wp2
    go_ret2
    exact ⟨_, rfl, Ow.nil _ _, HB3.out⟩
  | some k =>
    have HF := Lib.hid (HFm.out p L lc k _ HT3.out hrd)
    have HR2 : Hid ((R1, R2) = match tab ns us ks ts k x y with
      | none => (([] : List Nd), (3 : Int))
      | some xs => (xs, 0)) := Lib.hid (by rw [HRes.out, hrd])
    rw [show oI (some k) = (k : Int) from rfl]
    have hge : decide ((k : Int) < 0) = false := decide_eq_false (by omega)
    clear hrd HRes
    go_wp2_with fail
    refine HF.out.mono ?_
    rintro e w4 ⟨u, xs, b, rfl, ho, hl, htab, hb⟩
    obtain ⟨A4, c4, rfl⟩ := ho.opn
    have HB4 := Lib.hid (bthen HB3.out hb)
    have HO4 := Lib.hid (ho.mono HB3.out.size)
    have HT4 := Lib.hid htab
    clear ho hb htab hl
    cases b
    · obtain ⟨rfl, rfl⟩ : R1 = [] ∧ R2 = 3 := by have := HR2.out; rw [HT4.out] at this; injection this with a1 a2; exact ⟨a1, a2⟩
      clear HR2 HT4
      go_wp2
      go_ret2
      exact ⟨_, rfl, Ow.nil _ _, HB4.out⟩
    · obtain ⟨rfl, rfl⟩ : R1 = xs ∧ R2 = 0 := by have := HR2.out; rw [HT4.out] at this; injection this with a1 a2; exact ⟨a1, a2⟩
      clear HR2 HT4
      go_wp2
      go_ret2
      exact ⟨_, rfl, HO4.out, HB4.out⟩
/- Contracts of chapter 7, of the reference: rounds, columns. -/
set_option maxRecDepth 100000 in
theorem spec_l07Rounds (ns us ks ts : List Nat) (x y : Nat) (v : Value) (w : World) (h : Sl2 cI w v (bdL ns us ks ts 16)) (hx : x < ns.length) (hy : y < ks.length) (hk8 : ks.length ≤ 8) :
    Calls Tryz.prog 62 #[v, .int .i64 x, .int .i64 y] w fun e w' => e = .returned (.int .i64 (rdI ns us ks ts x y)) ∧ w = w' := by
  obtain ⟨L, lc, rfl⟩ := h.opn
  rw [bdL_length, show 16 + 1 = 17 from rfl] at h ⊢
  have HB := Lib.hid h
  have HR := Lib.hid (rd_fidx ns us ks ts x y)
  have H256 := Lib.hid (fun k i => bnd_256 (ns := ns) (us := us) (ks := ks) (ts := ts) hk8 k i)
  have HLn := Lib.hid (fun k => bnd_length ns us ks ts k)
  have HG := Lib.hid (fun k (hk : k < 17) => bdL_get ns us ks ts 16 k (by rw [bdL_length]; omega))
  have HLL := Lib.hid (bdL_length ns us ks ts 16)
  clear h
  go_enter Tryz.func62, Tryz.ntmps62
  go_wp2
  go_loop [7] (fun i => ∃ j : Nat, j ≤ 17 ∧ i = .int .i64 j ∧ ∀ k, k < j → ((bnd ns us ks ts k).getD x 0).testBit y = true) (fun i => 17 - (intOf i).toNat)
  case atStart => exact ⟨0, by omega, rfl, fun k hk => by omega⟩
  case round =>
    obtain ⟨j, hj, rfl, hh⟩ := hrel
    have HH := Lib.hid hh
    clear hh
    by_cases hlt : j < 17
    · have hbo := HB.out
      obtain ⟨b, o, Ai, ni, ci, e1, hbl, hc0, hs⟩ := hbo.at_ (k := j) (by rw [HLL.out]; omega)
      subst e1
      rw [HG.out j hlt] at hs
      obtain ⟨Ai', ci', e2⟩ := hs.opn
      rw [li_length, HLn.out] at e2
      obtain ⟨rfl, rfl, rfl⟩ : Ai = Ai' ∧ ni = ns.length ∧ ci = ci' := by injection e2 with a1 a2 a3; exact ⟨a1, a2, a3⟩
      obtain ⟨b2, o2, e3, hb2, hc2⟩ := li_at hs (k := x) (by rw [HLn.out]; exact hx)
      subst e3
      have eg : (bnd ns us ks ts j)[x]'(by rw [HLn.out]; exact hx) = (bnd ns us ks ts j).getD x 0 := by simp [List.getD_eq_getElem?_getD, HLn.out j, hx]
      rw [eg] at hc2
      have hq := H256.out j x
      have HBit := Lib.hid (spec_l01Bit ((bnd ns us ks ts j).getD x 0) y w (by omega) (by omega))
      obtain ⟨z, hz⟩ : ∃ z, ((bnd ns us ks ts j).getD x 0).testBit y = z := ⟨_, rfl⟩
      have HZ : Hid (∀ k, k = j → ((bnd ns us ks ts k).getD x 0).testBit y = z) := Lib.hid fun k hk => by rw [hk]; exact hz
      rw [hz] at HBit
      generalize (bnd ns us ks ts j).getD x 0 = q at *
      clear hbo hs e2 hz eg
      cases z
      · have HF : Hid (rdI ns us ks ts x y = j) := Lib.hid (by
          rw [← HR.out]
          exact fidx_some hlt (fun i hi => by rw [HH.out i hi]; rfl) (by rw [HZ.out j rfl]; rfl))
        go_wp2_with fail
        refine HBit.out.mono ?_
        rintro e w2 ⟨rfl, rfl⟩
        go_wp2
        go_ret
        exact ⟨by rw [HF.out]; rfl, rfl⟩
      · go_wp2_with fail
        refine HBit.out.mono ?_
        rintro e w2 ⟨rfl, rfl⟩
        go_wp2
        go_round
        case rel => exact ⟨j + 1, by omega, by go_num, fun k hk => (Nat.lt_or_ge k j).elim (fun h => HH.out k h) (fun h => HZ.out k (by omega))⟩
        case measure => simp [intOf]; omega
    · obtain rfl : j = 17 := by omega
      have HF : Hid (rdI ns us ks ts x y = -1) := Lib.hid (by
        rw [← HR.out]
        exact fidx_none fun i hi => by rw [HH.out i hi]; rfl)
      go_wp2
      go_ret
      exact ⟨by rw [HF.out]; rfl, rfl⟩
/-- the worlds that are linked to a world -/
def colm (lk : List Nat) (y : Nat) : Nat := msk (fun i => (lk.getD i 0).testBit y) lk.length
set_option maxRecDepth 100000 in
theorem spec_l07Column (lk : List Nat) (y : Nat) (v : Value) (w : World) (h : Sl cI w v (li lk)) (hl : lk.length ≤ 8) (hb : ∀ i, lk.getD i 0 < 256) (hy : y ≤ 60) :
    Calls Tryz.prog 204 #[v, .int .i64 y] w fun e w' => e = .returned (.int .i64 (colm lk y : Nat)) ∧ w = w' := by
  obtain ⟨A, c, rfl⟩ := h.opn
  rw [li_length] at h ⊢
  have H := Lib.hid h
  have HB := Lib.hid hb
  have HC : Hid (colm lk y = msk (fun i => (lk.getD i 0).testBit y) lk.length) := Lib.hid rfl
  have HS : Hid (∀ j, msk (fun i => (lk.getD i 0).testBit y) (j + 1) = msk (fun i => (lk.getD i 0).testBit y) j ||| if (lk.getD j 0).testBit y then 2 ^ j else 0) := Lib.hid fun j => rfl
  have HM : Hid (∀ j, j ≤ 8 → msk (fun i => (lk.getD i 0).testBit y) j < 256) := Lib.hid fun j hj => msk_bound _ hj (by omega)
  clear h hb
  go_enter Tryz.func204, Tryz.ntmps204
  go_wp2
  go_loop [5, 6] (fun q i => ∃ j : Nat, j ≤ lk.length ∧ i = .int .i64 j ∧ q = .int .i64 (msk (fun i => (lk.getD i 0).testBit y) j : Nat)) (fun _ i => lk.length - (intOf i).toNat)
  case atStart => exact ⟨0, Nat.zero_le _, rfl, rfl⟩
  case round =>
    obtain ⟨j, hj, rfl, rfl⟩ := hrel
    by_cases hlt : j < lk.length
    · have hh := H.out
      obtain ⟨b, o, e1, hbl, hc0⟩ := li_at hh hlt
      subst e1
      have eg : lk[j] = lk.getD j 0 := by simp [List.getD_eq_getElem?_getD, hlt]
      rw [eg] at hc0
      have hq := HB.out j
      have HBit := Lib.hid (spec_l01Bit (lk.getD j 0) y w (by omega) (by omega))
      have HSj := Lib.hid (HS.out j)
      have hm := HM.out j (by omega)
      have hor := i64_or_nat (msk (fun i => (lk.getD i 0).testBit y) j) (2 ^ j) (by omega) (two_pow_lt (by omega))
      rw [← cast_two_pow] at hor
      obtain ⟨z, hz⟩ : ∃ z, (lk.getD j 0).testBit y = z := ⟨_, rfl⟩
      rw [hz] at HBit HSj
      generalize msk (fun i => (lk.getD i 0).testBit y) j = m at *
      generalize lk.getD j 0 = q at *
      clear hh eg hz
      cases z
      · go_wp2_with fail
        refine HBit.out.mono ?_
        rintro e w2 ⟨rfl, rfl⟩
        go_wp2
        go_round
        case rel => exact ⟨j + 1, by omega, by go_num, by rw [HSj.out]; simp⟩
        case measure => simp [intOf]; omega
      · go_wp2_with fail
        refine HBit.out.mono ?_
        rintro e w2 ⟨rfl, rfl⟩
        go_wp2_with fail
        refine (spec_l01One _ _ (by omega) (by omega)).mono ?_
        rintro e w9 ⟨rfl, rfl⟩
        rw [Int.toNat_natCast]
        go_wp2
        go_round
        case rel => exact ⟨j + 1, by omega, by go_num, by rw [HSj.out, if_pos (by simp)]⟩
        case measure => simp [intOf]; omega
    · obtain rfl : j = lk.length := by omega
      go_wp2
      go_ret
      exact ⟨by rw [HC.out]; rfl, rfl⟩
theorem spec_l05World7 (n x : Int) (va : Value) (A : Option Addr) (m c : Nat) (hv : va = .slice A m c) (w : World) (hn : 0 ≤ n ∧ n ≤ 8) :
    Calls Tryz.prog 125 #[.agg #[.int .i64 n, va], .int .i64 x] w fun e w' => e = .returned (.bool (inR x 0 (n - 1))) ∧ Below w.heap.size w w' := by
  subst hv
  have hb0 := below_alloc' w (.cells #[.int .i64 n, .slice A m c] 26)
  have hk0 := Blk.new w 26 #[.int .i64 n, .slice A m c]
  have HB := Lib.hid hb0
  have HK0 := Lib.hid hk0
  have hw1 : IntKind.i64.wrap (n - 1) = n - 1 := IntWalk.i64_in _ ⟨by omega, by omega⟩
  have hw2 : wrap64 (n - 1) = n - 1 := IntWalk.wrap64_in _ ⟨by omega, by omega⟩
  clear hb0 hk0
  go_enter Tryz.func125, Tryz.ntmps125
  go_upto_region 1 with fail
  generalize World.alloc w _ = W at *
  have k0 : W.cell? ⟨w.heap.size, 0, none⟩ = some (.int .i64 n) := HK0.out.cell 0
  have l0 := HK0.out.lt
  go_wp2_with fail
  refine (spec_l01In _ _ _ _).mono ?_
  rintro e w1 ⟨rfl, rfl⟩
  go_wp2
  go_ret
  exact ⟨rfl, HB.out⟩
theorem spec_l07Two (n k : Int) (va vu vb vt : Value) (xs vs ys ts : List Int) (w : World) (ha : Sl cI w va xs) (hu : Sl cI w vu vs) (hb : Sl cI w vb ys) (ht : Sl cI w vt ts) (hl : xs.length + vs.length ≤ 1048576) (hl' : ys.length + ts.length ≤ 1048576) :
    Calls Tryz.prog 124 #[.agg #[.int .i64 n, va, vu], .agg #[.int .i64 k, vb, vt]] w fun e w' => e = .returned (.int .i64 (if mdOk n xs vs && mdOk k ys ts then 0 else 1)) ∧ Below w.heap.size w w' := by
  obtain ⟨A0, c0, rfl⟩ := ha.opn
  obtain ⟨A1, c1, rfl⟩ := hu.opn
  obtain ⟨B0, d0, rfl⟩ := hb.opn
  obtain ⟨B1, d1, rfl⟩ := ht.opn
  have hb0 := below_alloc' w (.cells #[.int .i64 n, .slice A0 xs.length c0, .slice A1 vs.length c1] 28)
  have hk0 := Blk.new w 28 #[.int .i64 n, .slice A0 xs.length c0, .slice A1 vs.length c1]
  have hb1 := below_alloc' (w.alloc (.cells #[.int .i64 n, .slice A0 xs.length c0, .slice A1 vs.length c1] 28)) (.cells #[.int .i64 k, .slice B0 ys.length d0, .slice B1 ts.length d1] 28)
  have hk1 : Blk _ (w.heap.size + 1) _ _ := Blk.new' (w.alloc (.cells #[.int .i64 n, .slice A0 xs.length c0, .slice A1 vs.length c1] 28)) 28 #[.int .i64 k, .slice B0 ys.length d0, .slice B1 ts.length d1] (by simp)
  have hbb := bthen hb0 hb1
  have HB := Lib.hid hbb
  have HK0 := Lib.hid (hk0.below hb1 hk0.lt)
  have HK1 := Lib.hid hk1
  have M1 := Lib.hid (fun W (hW : Below w.heap.size w W) => spec_l06Is n _ _ xs vs W (ha.below hW) (hu.below hW) (by omega) (by omega))
  have M2 := Lib.hid (fun W (hW : Below w.heap.size w W) => spec_l06Is k _ _ ys ts W (hb.below hW) (ht.below hW) (by omega) (by omega))
  clear hb0 hb1 hk0 hk1 hbb ha hu hb ht
  generalize mdOk n xs vs = q1 at *
  generalize mdOk k ys ts = q2 at *
  go_enter Tryz.func124, Tryz.ntmps124
  go_upto_region 1 with fail
  generalize World.alloc (w.alloc _) _ = W at *
  have k0 := HK0.out.cell
  have k1 := HK1.out.cell
  have l0 := HK0.out.lt
  have l1 := HK1.out.lt
  go_wp2_with fail
  refine (M1.out _ HB.out).mono ?_
  rintro e w1 ⟨rfl, hb⟩
  have HB1 := Lib.hid (bthen HB.out hb)
  have HK3 := Lib.hid (HK1.out.below hb HK1.out.lt)
  clear hb k0 k1 l0 l1
  cases q1
  · go_wp2
    go_ret
    exact ⟨rfl, HB1.out⟩
  have k1 := HK3.out.cell
  have l1 := HK3.out.lt
  go_wp2_with fail
  refine (M2.out _ HB1.out).mono ?_
  rintro e w2 ⟨rfl, hb⟩
  have HB2 := Lib.hid (bthen HB1.out hb)
  clear hb k1 l1
  cases q2
  all_goals
    go_wp2
    go_ret
    exact ⟨rfl, HB2.out⟩
set_option maxRecDepth 100000 in
theorem spec_l07Places (n x k y : Int) (va vu vb vt : Value) (xs vs ys ts : List Int) (w : World) (ha : Sl cI w va xs) (hu : Sl cI w vu vs) (hb : Sl cI w vb ys) (ht : Sl cI w vt ts) (hl : xs.length + vs.length ≤ 1048576) (hl' : ys.length + ts.length ≤ 1048576) :
    Calls Tryz.prog 60 #[.agg #[.int .i64 n, va, vu], .int .i64 x, .agg #[.int .i64 k, vb, vt], .int .i64 y] w fun e w' => e = .returned (.int .i64 (tcode n xs vs x k ys ts y)) ∧ Below w.heap.size w w' := by
  obtain ⟨A0, c0, rfl⟩ := ha.opn
  obtain ⟨A1, c1, rfl⟩ := hu.opn
  obtain ⟨B0, d0, rfl⟩ := hb.opn
  obtain ⟨B1, d1, rfl⟩ := ht.opn
  have hb0 := below_alloc' w (.cells #[.int .i64 n, .slice A0 xs.length c0, .slice A1 vs.length c1] 28)
  have hk0 := Blk.new w 28 #[.int .i64 n, .slice A0 xs.length c0, .slice A1 vs.length c1]
  have hb1 := below_alloc' (w.alloc (.cells #[.int .i64 n, .slice A0 xs.length c0, .slice A1 vs.length c1] 28)) (.cells #[.int .i64 k, .slice B0 ys.length d0, .slice B1 ts.length d1] 28)
  have hk1 : Blk _ (w.heap.size + 1) _ _ := Blk.new' (w.alloc (.cells #[.int .i64 n, .slice A0 xs.length c0, .slice A1 vs.length c1] 28)) 28 #[.int .i64 k, .slice B0 ys.length d0, .slice B1 ts.length d1] (by simp)
  have hbb := bthen hb0 hb1
  have HB := Lib.hid hbb
  have HK0 := Lib.hid (hk0.below hb1 hk0.lt)
  have HK1 := Lib.hid hk1
  have M1 := Lib.hid (fun W (hW : Below w.heap.size w W) => spec_l07Two n k _ _ _ _ xs vs ys ts W (ha.below hW) (hu.below hW) (hb.below hW) (ht.below hW) hl hl')
  have HT : Hid (tcode n xs vs x k ys ts y = if mdOk n xs vs && mdOk k ys ts then (if inR x 0 (n - 1) && inR y 0 (k - 1) then 0 else 2) else 1) := Lib.hid rfl
  have HN : Hid ((mdOk n xs vs && mdOk k ys ts) = true → (0 ≤ n ∧ n ≤ 8) ∧ 0 ≤ k ∧ k ≤ 8) := Lib.hid fun h => by
    rw [Bool.and_eq_true] at h
    obtain ⟨ns, us, -, -, rfl, hr, -⟩ := mdOk_iff h.1
    obtain ⟨ns2, us2, -, -, rfl, hr2, -⟩ := mdOk_iff h.2
    have := hr.1
    have := hr2.1
    omega
  clear hb0 hb1 hk0 hk1 hbb ha hu hb ht
  generalize (mdOk n xs vs && mdOk k ys ts) = q1 at *
  go_enter Tryz.func60, Tryz.ntmps60
  go_upto_region 1 with fail
  generalize World.alloc (w.alloc _) _ = W at *
  have k0 := HK0.out.cell
  have k1 := HK1.out.cell
  have l0 := HK0.out.lt
  have l1 := HK1.out.lt
  go_wp2_with fail
  refine (M1.out _ HB.out).mono ?_
  rintro e w1 ⟨rfl, hb⟩
  have HB2 := Lib.hid (bthen HB.out hb)
  have HK4 := Lib.hid (HK0.out.below hb HK0.out.lt)
  have HK5 := Lib.hid (HK1.out.below hb HK1.out.lt)
  clear hb k0 k1 l0 l1
  cases q1
  · go_wp2
    go_ret
    exact ⟨by rw [HT.out]; rfl, HB2.out⟩
  have k0 := HK4.out.cell
  have k1 := HK5.out.cell
  have l0 := HK4.out.lt
  have l1 := HK5.out.lt
  have hnn := HN.out (by trivial)
  have W1 := Lib.hid (fun W => spec_l05World7 n x _ A0 xs.length c0 rfl W hnn.1)
  have W2 := Lib.hid (fun W => spec_l05World7 k y _ B0 ys.length d0 rfl W hnn.2)
  have HT2 : Hid (tcode n xs vs x k ys ts y = if inR x 0 (n - 1) && inR y 0 (k - 1) then 0 else 2) := Lib.hid (by rw [HT.out]; rfl)
  obtain ⟨q1, hq1⟩ : ∃ q, inR x 0 (n - 1) = q := ⟨_, rfl⟩
  obtain ⟨q2, hq2⟩ : ∃ q, inR y 0 (k - 1) = q := ⟨_, rfl⟩
  rw [hq1] at W1 HT2
  rw [hq2] at W2 HT2
  clear hq1 hq2 HT
  go_wp2_with fail
  refine (W1.out _).mono ?_
  rintro e w3 ⟨rfl, hb⟩
  have HB3 := Lib.hid (bthen HB2.out hb)
  have HK6 := Lib.hid (HK5.out.below hb HK5.out.lt)
  clear hb k0 k1 l0 l1
  cases q1
  · go_wp2
    go_ret
    exact ⟨by rw [HT2.out]; rfl, HB3.out⟩
  have k1 := HK6.out.cell
  have l1 := HK6.out.lt
  go_wp2_with fail
  refine (W2.out _).mono ?_
  rintro e w4 ⟨rfl, hb⟩
  have HB4 := Lib.hid (bthen HB3.out hb)
  clear hb k1 l1
  cases q2
  all_goals
    go_wp2
    go_ret
    exact ⟨by rw [HT2.out]; rfl, HB4.out⟩
end Go.Proofs.YtnolbgdbboiehaaGreat

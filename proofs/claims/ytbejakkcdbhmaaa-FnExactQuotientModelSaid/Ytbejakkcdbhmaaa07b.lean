/- Contracts of chapter 7, of the program: back, linkOf. -/
import Derived.Test.Ytbejakkcdbhmaaa07a
import Derived.StillTailTactics
namespace Go.Proofs.Ytbejakkcdbhmaaa
open Go.RowKit
set_option linter.unusedVariables false
set_option linter.unusedSimpArgs false
theorem impl_back (ns us ks ts lk : List Nat) (A0 A1 B0 B1 : Option Addr) (c0 c1 d0 d1 : Nat) (v : Value) (x y : Nat) (w : World) (ha : Sl cI w (.slice A0 ns.length c0) (li ns)) (hb : Sl cI w (.slice B0 ks.length d0) (li ks)) (h : Sl cI w v (li lk))
    (hr : RelN ns) (hr2 : RelN ks) (hl : lk.length = ns.length) (hlt : ∀ x ∈ lk, x < 2 ^ 8) (hx : x < ns.length) (hy : y < ks.length) :
    Calls Try.prog 280 #[.agg #[.int .i64 ns.length, .slice A0 ns.length c0, .slice A1 6 c1], .agg #[.int .i64 ks.length, .slice B0 ks.length d0, .slice B1 6 d1], v, .int .i64 x, .int .i64 y] w
      fun e w' => e = .returned (.bool (bck lk (ns.getD x 0) (ks.getD y 0))) ∧ Below w.heap.size w w' := by
  have HLN := Lib.hid (li_length ns)
  have HLK := Lib.hid (li_length ks)
  have hx' : x < (li ns).length := by rw [HLN.out]; exact hx
  have hy' : y < (li ks).length := by rw [HLK.out]; exact hy
  have h8 := hr.1
  have hk8 := hr2.1
  have ha2 := getD_lt hr.2 x
  have hy256 := Nat.lt_of_lt_of_le (getD_lt hr2.2 y) (two_pow_256 hk8)
  obtain ⟨m, hmm⟩ : ∃ m, ns.getD x 0 = m := ⟨_, rfl⟩
  obtain ⟨q, hqq⟩ : ∃ q, ks.getD y 0 = q := ⟨_, rfl⟩
  have EQ : Hid (bck lk (ns.getD x 0) (ks.getD y 0) = decide (andnot q (img lk m) = 0)) := Lib.hid (by rw [hmm, hqq]; rfl)
  rw [hmm] at ha2
  rw [hqq] at hy256
  have HM0 := Lib.hid hmm
  have HQ0 := Lib.hid hqq
  clear hmm hqq
  have hg : img lk m < 2 ^ 8 := imgTo_lt hlt _ _
  have HI := Lib.hid (fun W (hW : Sl cI W v (li lk)) => impl_image v lk m W hW (by omega) hlt (by rw [hl]; exact ha2))
  have HW := Lib.hid (fun W => impl_within q (img lk m) W (by omega) (by omega))
  have hb0 := below_alloc' w (.cells #[.int .i64 ns.length, .slice A0 ns.length c0, .slice A1 6 c1] 77)
  have hk0 := Blk.new w 77 #[.int .i64 ns.length, .slice A0 ns.length c0, .slice A1 6 c1]
  have hb1 := below_alloc' (w.alloc (.cells #[.int .i64 ns.length, .slice A0 ns.length c0, .slice A1 6 c1] 77)) (.cells #[.int .i64 ks.length, .slice B0 ks.length d0, .slice B1 6 d1] 77)
  have hk1 : Blk _ (w.heap.size + 1) _ _ := Blk.new' (w.alloc (.cells #[.int .i64 ns.length, .slice A0 ns.length c0, .slice A1 6 c1] 77)) 77 #[.int .i64 ks.length, .slice B0 ks.length d0, .slice B1 6 d1] (by simp)
  have HB := Lib.hid (bthen hb0 hb1)
  have HK0 := Lib.hid (hk0.below hb1 hk0.lt)
  have HK1 := Lib.hid hk1
  have HA := Lib.hid ((ha.below hb0).below hb1)
  have HBk := Lib.hid ((hb.below hb0).below hb1)
  have HS := Lib.hid ((h.below hb0).below hb1)
  clear h ha hb hb0 hb1 hk0 hk1 hlt hr hr2 hg
  generalize img lk m = g at *
  go_enter Try.func280, Try.ntmps280
  go_upto_region 1 with fail
  generalize World.alloc (w.alloc _) _ = W at *
  obtain ⟨b, o, rfl, hbl, hc0⟩ := HA.out.atI hx'
  obtain ⟨b5, o5, rfl, hbl5, hc5⟩ := HBk.out.atI hy'
  rw [li_get, HM0.out] at hc0
  rw [li_get, HQ0.out] at hc5
  have k0 : W.cell? ⟨w.heap.size, 1, none⟩ = some (.slice (some ⟨b, o, none⟩) ns.length c0) := HK0.out.cell 1
  have k1 : W.cell? ⟨w.heap.size + 1, 1, none⟩ = some (.slice (some ⟨b5, o5, none⟩) ks.length d0) := HK1.out.cell 1
  have l0 := HK0.out.lt
  have l1 := HK1.out.lt
  first | go_region_held3 (fun w' => w'.cell? ⟨w.heap.size, 1, none⟩ = some (.slice (some ⟨b, o, none⟩) ns.length c0) ∧ w'.cell? ⟨w.heap.size + 1, 1, none⟩ = some (.slice (some ⟨b5, o5, none⟩) ks.length d0) ∧ w'.cell? ⟨b, o + x, none⟩ = some (.int .i64 m) ∧ w'.cell? ⟨b5, o5 + y, none⟩ = some (.int .i64 q)) (first | exact ⟨k0', k1', hc0', hc5'⟩ | exact ⟨k0, k1, hc0, hc5⟩ | (simp [*]; done)) (first | (go_at_call 296; refine (HI.out _ (HS.out.below (below_drewN (Below.refl _ _) 1))).mono ?_; rintro e w2 ⟨rfl, hb2⟩; have hb3 : Below W.heap.size W w2 := (below_drewN (Below.refl _ _) 1).trans hb2; have k0' := (hb3.cell (p := ⟨w.heap.size, 1, none⟩) l0).trans k0; have k1' := (hb3.cell (p := ⟨w.heap.size + 1, 1, none⟩) l1).trans k1; have hc0' := (hb3.cell (p := ⟨b, o + x, none⟩) hbl).trans hc0; have hc5' := (hb3.cell (p := ⟨b5, o5 + y, none⟩) hbl5).trans hc5) | (go_at_call 110; refine (HW.out _).mono ?_; rintro e w3 ⟨rfl, rfl⟩)) | fail
  all_goals
    have HB3 := Lib.hid (bthen HB.out hb3)
    clear k0' k1' hc0' hc5' hb2 hb3
    go_wp2
    go_ret
    exact ⟨by rw [EQ.out]; rfl, HB3.out⟩
/-- linkOf's list: the rows below x are whole, row x is made up to y -/
def lrow (n k : Nat) (p : Nat → Nat → Bool) (x y : Nat) : List Nat := (List.range n).map fun i => if i < x then msk (p i) k else if i = x then msk (p x) y else 0
theorem lrow_length (n k : Nat) (p : Nat → Nat → Bool) (x y : Nat) : (lrow n k p x y).length = n := by simp [lrow]
theorem lrow_zero (n k : Nat) (p : Nat → Nat → Bool) : lrow n k p 0 0 = List.replicate n 0 := by
  apply List.ext_getElem (by simp [lrow])
  intro i h1 h2
  simp only [lrow, List.getElem_map, List.getElem_range, List.getElem_replicate]
  rw [if_neg (by omega)]
  split <;> rfl
theorem lrow_next (n k : Nat) (p : Nat → Nat → Bool) (x : Nat) : lrow n k p (x + 1) 0 = lrow n k p x k := by
  unfold lrow
  refine List.map_congr_left fun i _ => ?_
  by_cases h : i < x
  · rw [if_pos (by omega), if_pos h]
  · by_cases h2 : i = x
    · subst h2; rw [if_pos (by omega), if_neg (by omega), if_pos rfl]
    · rw [if_neg (by omega), if_neg h, if_neg h2]
      split <;> rfl
theorem lrow_end (n k : Nat) (p : Nat → Nat → Bool) (y : Nat) : lrow n k p n y = lnk n k p := by
  unfold lrow lnk
  refine List.map_congr_left fun i hi => ?_
  rw [if_pos (List.mem_range.1 hi)]
theorem lrow_getD {n k x y : Nat} (p : Nat → Nat → Bool) (h : x < n) : (lrow n k p x y).getD x 0 = msk (p x) y := by
  unfold lrow
  rw [List.getD_eq_getElem?_getD, List.getElem?_map, List.getElem?_range h]
  simp
theorem lrow_set (n k : Nat) (p : Nat → Nat → Bool) (x y : Nat) : (lrow n k p x y).set x (msk (p x) (y + 1)) = lrow n k p x (y + 1) := by
  apply List.ext_getElem (by simp [lrow])
  intro i h1 h2
  rw [List.getElem_set]
  simp only [lrow, List.getElem_map, List.getElem_range]
  by_cases h : x = i
  · subst h; rw [if_pos rfl, if_neg (by omega), if_pos rfl]
  · rw [if_neg h]
    by_cases h3 : i < x
    · rw [if_pos h3, if_pos h3]
    · rw [if_neg h3, if_neg h3, if_neg (fun e => h e.symm), if_neg (fun e => h e.symm)]
theorem lrow_no {n k x y : Nat} {p : Nat → Nat → Bool} (h : p x y = false) : lrow n k p x (y + 1) = lrow n k p x y := by
  unfold lrow
  refine List.map_congr_left fun i _ => ?_
  by_cases h1 : i < x
  · rw [if_pos h1, if_pos h1]
  · rw [if_neg h1, if_neg h1]
    by_cases h2 : i = x
    · rw [if_pos h2, if_pos h2]
      show msk (p x) y ||| (if p x y then 2 ^ y else 0) = _
      rw [h]; simp
    · rw [if_neg h2, if_neg h2]
set_option maxRecDepth 100000 in
theorem impl_linkOf (n k : Nat) (A0 A1 B0 B1 : Option Addr) (a0 a1 b0 b1 c0 c1 d0 d1 : Nat) (f : FuncId) (cap : Array Value) (p : Nat → Nat → Bool) (w : World) (hn : n ≤ 8) (hk : k ≤ 8)
    (he : ∀ (args : Array Value) (w : World), (callFunc f args).run Try.prog w = .ok (.enter f args) w)
    (hf : ∀ w', Below w.heap.size w w' → ∀ (x y : Nat), x < n → y < k → Calls Try.prog f (#[.int .i64 x, .int .i64 y] ++ cap) w' fun e w'' => e = .returned (.bool (p x y)) ∧ Below w'.heap.size w' w'') :
    Calls Try.prog 275 #[.agg #[.int .i64 n, .slice A0 a0 c0, .slice A1 a1 c1], .agg #[.int .i64 k, .slice B0 b0 d0, .slice B1 b1 d1], .func (.func f) #[] cap] w
      fun e w' => ∃ A c, e = .returned (.slice A n c) ∧ Ow cI 2 w.heap.size w' (.slice A n c) (li (lnk n k p)) ∧ Below w.heap.size w w' := by
  have hb0 := below_alloc' w (.cells #[.int .i64 n, .slice A0 a0 c0, .slice A1 a1 c1] 77)
  have hk0 := Blk.new w 77 #[.int .i64 n, .slice A0 a0 c0, .slice A1 a1 c1]
  have hb1 := below_alloc' (w.alloc (.cells #[.int .i64 n, .slice A0 a0 c0, .slice A1 a1 c1] 77)) (.cells #[.int .i64 k, .slice B0 b0 d0, .slice B1 b1 d1] 77)
  have hk1 : Blk _ (w.heap.size + 1) _ _ := Blk.new' (w.alloc (.cells #[.int .i64 n, .slice A0 a0 c0, .slice A1 a1 c1] 77)) 77 #[.int .i64 k, .slice B0 b0 d0, .slice B1 b1 d1] (by simp)
  have HB := Lib.hid (bthen hb0 hb1)
  have HK0 := Lib.hid (hk0.below hb1 hk0.lt)
  have HK1 := Lib.hid hk1
  have HF := Lib.hid hf
  clear hb0 hb1 hk0 hk1 hf
  go_enter Try.func275, Try.ntmps275
  go_upto_region 1 with fail
  generalize World.alloc (w.alloc _) _ = W at *
  have k0 := HK0.out.cell
  have l0 := HK0.out.lt
  go_wp2_with (at_make; refine stopHere ?_)
  refine goHere ?_
  refine mk_full (K := cI) W ty_int64 rfl _ _ rfl W.heap.size n 0 rfl rfl rfl (by omega) (Nat.le_refl _) ?_
  intro w1 ho hg hb hz
  have EZ : List.replicate n (0 : Int) = li (lrow n k p 0 0) := by rw [lrow_zero]; unfold li; rw [List.map_replicate]; rfl
  rw [EZ] at ho
  have HO := Lib.hid ho
  have HB1 := Lib.hid hb
  have hk2 := HK0.out.below hb l0
  have k2 := hk2.cell
  have l2 := hk2.lt
  clear ho hb hg hz EZ k0 l0 hk2
  go_wp2
  go_loopw [17] (fun x wr => ∃ j : Nat, j ≤ n ∧ x = .int .i64 j ∧ Ow cI 2 W.heap.size wr (.slice (some ⟨W.heap.size, 0, none⟩) n n) (li (lrow n k p j 0)) ∧ Below W.heap.size W wr) (fun x _ => n - (intOf x).toNat)
  case atStart => exact ⟨0, Nat.zero_le _, rfl, HO.out, HB1.out⟩
  case round =>
    obtain ⟨x, hx, rfl, ho, hb⟩ := hrel
    clear HO HB1 k2 l2
    have HO := Lib.hid ho
    have HBx := Lib.hid hb
    have hk3 := HK1.out.below hb HK1.out.lt
    have k3 := hk3.cell
    have l3 := hk3.lt
    clear ho hb hk3
    by_cases hxn : x < n
    · go_wp2
      clear k3 l3
      go_loopw [23] (fun y wr => ∃ j : Nat, j ≤ k ∧ y = .int .i64 j ∧ Ow cI 2 W.heap.size wr (.slice (some ⟨W.heap.size, 0, none⟩) n n) (li (lrow n k p x j)) ∧ Below W.heap.size W wr) (fun y _ => k - (intOf y).toNat)
      case atStart => exact ⟨0, Nat.zero_le _, rfl, HO.out, HBx.out⟩
      case round =>
        obtain ⟨y, hy, rfl, ho, hb⟩ := hrel
        clear HO HBx
        have HO := Lib.hid ho
        have HBy := Lib.hid hb
        clear ho hb
        by_cases hyk : y < k
        · go_wp2_with fail
          refine (HF.out _ (bthen HB.out HBy.out) x y hxn hyk).mono ?_
          rintro e w3 ⟨rfl, hb⟩
          have ho := HO.out.below hb
          have hb3 : Below W.heap.size W w3 := HBy.out.trans (hb.mono HBy.out.size)
          clear hb HO HBy
          have HS := Lib.hid (lrow_set n k p x y)
          have HG := Lib.hid (lrow_getD (k := k) (y := y) p hxn)
          cases hp : p x y
          · have HE := Lib.hid (lrow_no (n := n) (k := k) hp)
            have HO := Lib.hid ho
            have HB3 := Lib.hid hb3
            clear hp ho hb3
            go_wp2
            go_roundw
            case rel => exact ⟨y + 1, by omega, by go_num, by rw [HE.out]; exact HO.out, HB3.out⟩
            case measure => simp [intOf]; omega
          · have HM : Hid (msk (p x) (y + 1) = msk (p x) y ||| 2 ^ y) := Lib.hid (by show msk (p x) y ||| (if p x y then 2 ^ y else 0) = _; rw [hp]; rfl)
            have hq := msk_bound (p x) hy hk
            obtain ⟨r, hrr⟩ : ∃ r, lrow n k p x y = r := ⟨_, rfl⟩
            have hrl : r.length = n := by rw [← hrr, lrow_length]
            rw [hrr] at ho HS HG
            clear hrr hp
            obtain ⟨cj, -, -, -⟩ := ho.at1 rfl (j := x) (by rw [li_length, hrl]; omega) rfl
            have hod := ho.below (Below.refl _ _).drew
            obtain ⟨cj4, fj, -, -⟩ := hod.at1 rfl (j := x) (by rw [li_length, hrl]; omega) rfl
            rw [li_get, HG.out] at cj cj4
            have hset := Lib.hid (hod.set1 (j := x) (x := ((msk (p x) y ||| 2 ^ y : Nat) : Int)) (u := .int .i64 (msk (p x) y ||| 2 ^ y : Nat)) rfl rfl (by rw [li_length, hrl]; omega))
            rw [li_set, ← HM.out, HS.out, HM.out] at hset
            have hne : W.heap.size ≤ W.heap.size := Nat.le_refl _
            have hbs := Lib.hid ((hb3.drew).setCell (p := ⟨W.heap.size, x, none⟩) hne (.int .i64 (msk (p x) y ||| 2 ^ y : Nat)))
            clear ho hod hb3 HS HG HM
            generalize msk (p x) y = q at *
            have e2 := i64_or_nat q (2 ^ y) (by omega) (two_pow_lt (by omega))
            have e3 := wrap_two_pow'' (n := y) (by omega)
            rw [← cast_two_pow] at e2
            go_wp2
            go_still_tail 8, (by kernel_rfl)
            change wpList _ _ _ _ _ (World.drew _)
            clear cj
            generalize World.drew _ = w4 at *
            go_wp2
            go_roundw
            case rel => exact ⟨y + 1, by omega, by go_num, hset.out, hbs.out⟩
            case measure => simp [intOf]; omega
        · obtain rfl : y = k := by omega
          have HE := Lib.hid (lrow_next n y p x)
          go_wp2
          go_roundw
          case rel => exact ⟨x + 1, by omega, by go_num, by rw [HE.out]; exact HO.out, HBy.out⟩
          case measure => simp [intOf]; omega
    · obtain rfl : x = n := by omega
      have HE := Lib.hid (lrow_end x k p 0)
      clear k3 l3
      go_wp2
      go_ret
      exact ⟨_, _, rfl, by rw [← HE.out]; exact HO.out.mono HB.out.size, bthen HB.out HBx.out⟩
end Go.Proofs.Ytbejakkcdbhmaaa

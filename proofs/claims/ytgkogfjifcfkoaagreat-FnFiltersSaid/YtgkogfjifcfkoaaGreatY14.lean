/- Heyting algebras: what an order builds, and the reference's l18Build. Written by gen18E.py. -/
import Derived.Test.YtgkogfjifcfkoaaGreatY13
namespace Go.Proofs.YtgkogfjifcfkoaaGreat
open Go.RowKit
set_option linter.unusedVariables false
set_option linter.unusedSimpArgs false
def fA (ns : List Nat) (x y : Nat) : Int := lwI (inv ns) ((inv ns).getD x 0 &&& (inv ns).getD y 0)
def fO (ns : List Nat) (x y : Nat) : Int := lwI ns (ns.getD x 0 &&& ns.getD y 0)
def cnd (ns : List Nat) (x y : Nat) : Nat := msk (fun z => (ns.getD (fA ns z x).toNat 0).testBit y) ns.length
def fI (ns : List Nat) (x y : Nat) : Int := lwI (inv ns) (cnd ns x y)
def botI (ns : List Nat) : Int := lwI ns (2 ^ ns.length - 1)
def topI (ns : List Nat) : Int := lwI (inv ns) (2 ^ ns.length - 1)
def rowI (f : Nat → Nat → Int) (x k : Nat) : List Int := (List.range k).map (f x)
def tabI (f : Nat → Nat → Int) (n k : Nat) : List (List Int) := (List.range k).map fun x => rowI f x n
theorem rowI_length (f : Nat → Nat → Int) (x k : Nat) : (rowI f x k).length = k := by simp [rowI]
theorem rowI_succ (f : Nat → Nat → Int) (x k : Nat) : rowI f x (k + 1) = rowI f x k ++ [f x k] := by
  unfold rowI; rw [List.range_succ, List.map_append]; rfl
theorem rowI_get (f : Nat → Nat → Int) (x k i : Nat) (h : i < (rowI f x k).length) : (rowI f x k)[i] = f x i := by simp [rowI]
theorem tabI_length (f : Nat → Nat → Int) (n k : Nat) : (tabI f n k).length = k := by simp [tabI]
theorem tabI_succ (f : Nat → Nat → Int) (n k : Nat) : tabI f n (k + 1) = tabI f n k ++ [rowI f k n] := by
  unfold tabI; rw [List.range_succ, List.map_append]; rfl
theorem tabI_get (f : Nat → Nat → Int) (n k i : Nat) (h : i < (tabI f n k).length) : (tabI f n k)[i] = rowI f i n := by simp [tabI]
/-- an algebra is built -/
def hbOk (ns : List Nat) : Prop := ns.length ≠ 0 ∧ par ns = true ∧ 0 ≤ botI ns ∧ 0 ≤ topI ns ∧ (∀ x, x < ns.length → ∀ y, y < ns.length → 0 ≤ fA ns x y ∧ 0 ≤ fO ns x y) ∧ ∀ x, x < ns.length → ∀ y, y < ns.length → 0 ≤ fI ns x y
instance (ns : List Nat) : Decidable (hbOk ns) := by unfold hbOk; exact inferInstance
theorem lwI_lt (ns : List Nat) (m : Nat) : lwI ns m < ns.length ∨ ns.length = 0 := by
  unfold lwI
  cases h : lw ns m with
  | none => rcases Nat.eq_zero_or_pos ns.length with h0 | h0
            · exact .inr h0
            · exact .inl (by simp only; omega)
  | some x =>
    have := List.mem_range.1 (List.mem_of_find?_eq_some h)
    exact .inl (by simp only; omega)
theorem slRd {α : Type} {K : Cod α} {w : World} {A : Option Addr} {n c : Nat} {xs : List α} (h : Sl K w (.slice A n c) xs) : Rd w A (flat K xs) := by
  obtain ⟨A', c', hv, _, _, hr⟩ := h
  injection hv with hA _ _
  subst hA
  exact hr
theorem inv_rel {ns : List Nat} (h : RelM ns) : RelM (inv ns) := by
  refine ⟨by rw [inv_length]; exact h.1, fun x hx => ?_⟩
  unfold inv lnk at hx
  obtain ⟨i, -, rfl⟩ := List.mem_map.1 hx
  rw [inv_length]
  exact msk_lt _ _
set_option maxHeartbeats 4000000 in
set_option maxRecDepth 100000 in
theorem spec_l18BuildO (v : Value) (ns : List Nat) (w : World) (h : Sl cI w v (li ns)) (hr : RelM ns) :
    Calls Tryz.prog 112 #[v] w fun e w' => (¬ hbOk ns ∧ e = .returned (.tuple #[.agg #[.slice none 0 0, .slice none 0 0, .slice none 0 0, .int .i64 0, .int .i64 0], .bool false]) ∧ Below w.heap.size w w') ∨
      (hbOk ns ∧ ∃ a o i, e = .returned (.tuple #[.agg #[a, o, i, .int .i64 (botI ns), .int .i64 (topI ns)], .bool true]) ∧ OwT w.heap.size w' a (tabI (fA ns) ns.length ns.length) ∧ OwT w.heap.size w' o (tabI (fO ns) ns.length ns.length) ∧ OwT w.heap.size w' i (tabI (fI ns) ns.length ns.length) ∧ Below w.heap.size w w') := by
  obtain ⟨A0, c0, rfl⟩ := h.opn
  have h30 := hr.1
  have HL := Lib.hid (li_length ns)
  rw [HL.out] at h ⊢
  have HX := Lib.hid h
  have BL := Lib.hid (Below.refl w.heap.size w)
  have HR := Lib.hid hr
  have HRI := Lib.hid (inv_rel hr)
  have HPa := Lib.hid (fun W (hW : Sl cI W (.slice A0 ns.length c0) (li ns)) => spec_l18Partial _ ns W hW hr)
  have HIv := Lib.hid (fun W (hW : Sl cI W (.slice A0 ns.length c0) (li ns)) => spec_l01InverseM _ ns W hW hr)
  have HLo := Lib.hid (fun m W (hm : m < 1073741824) (hW : Sl cI W (.slice A0 ns.length c0) (li ns)) => spec_l18Low _ ns m W hW hr hm)
  have HLb := Lib.hid (fun u m W (hm : m < 1073741824) (hW : Sl cI W u (li (inv ns))) => spec_l18Low u (inv ns) m W hW (inv_rel hr) hm)
  have HIL := Lib.hid (show (li (inv ns)).length = ns.length by rw [li_length, inv_length])
  obtain ⟨F, hF⟩ : ∃ F, F = 2 ^ ns.length - 1 := ⟨_, rfl⟩
  have hp2 := two_pow_30 h30
  have hp1 : 0 < 2 ^ ns.length := Nat.pow_pos (by decide)
  have hF30 : F < 1073741824 := by omega
  have HFu := Lib.hid (fun W => spec_l01Full' ns.length F hF W (by omega))
  have HBo := Lib.hid (show lwI ns F = botI ns by rw [hF]; rfl)
  have HTo := Lib.hid (show lwI (inv ns) F = topI ns by rw [hF]; rfl)
  clear h hr hF hp1 hp2
  go_enter Tryz.func112, Tryz.ntmps112
  go_upto_region 1 with fail
  have hb := below_alloc' w (.cells #[.slice none 0 0, .slice none 0 0, .slice none 0 0, .int .i64 0, .int .i64 0] 26)
  have R := Lib.hid (Blk.new w 26 #[.slice none 0 0, .slice none 0 0, .slice none 0 0, .int .i64 0, .int .i64 0])
  replace HX := Lib.hid (HX.out.below hb)
  replace BL := Lib.hid (bthen BL.out hb)
  clear hb
  generalize World.alloc w _ = w1 at *
  by_cases h0 : ns.length = 0
  · have E : Hid (¬ hbOk ns) := Lib.hid (fun hk => hk.1 h0)
    have i0 : ((ns.length : Int) == 0) = true := by rw [h0]; rfl
    clear h0
    have kr := R.out.cell
    have fr := R.out.frozen
    have lr := R.out.lt
    go_wp2
    refine bodyPost_ret (v := .tuple #[.agg #[.slice none 0 0, .slice none 0 0, .slice none 0 0, .int .i64 0, .int .i64 0], .bool false]) (by simp [results, Tryz.results112, go_sem, kr, fr, lr]) rfl (.inl ⟨E.out, rfl, ?_⟩)
    exact (((((BL.out.setCell (p := ⟨w.heap.size, 0, none⟩) (Nat.le_refl _) _).setCell (p := ⟨w.heap.size, 1, none⟩) (Nat.le_refl _) _).setCell (p := ⟨w.heap.size, 2, none⟩) (Nat.le_refl _) _).setCell (p := ⟨w.heap.size, 3, none⟩) (Nat.le_refl _) _).setCell (p := ⟨w.heap.size, 4, none⟩) (Nat.le_refl _) _)
  · have i0 : ((ns.length : Int) == 0) = false := beq_eq_false_iff_ne.2 (by omega)
    have I0 := Lib.hid i0
    go_wp2_with fail
    refine (HPa.out _ HX.out).mono ?_
    rintro e w2 ⟨rfl, hb⟩
    replace HX := Lib.hid (HX.out.below hb)
    replace R := Lib.hid (R.out.below hb R.out.lt)
    replace BL := Lib.hid (bthen BL.out hb)
    clear hb
    cases hpar : par ns
    · have E : Hid (¬ hbOk ns) := Lib.hid (fun hk => by rw [hk.2.1] at hpar; cases hpar)
      clear hpar i0
      have kr := R.out.cell
      have fr := R.out.frozen
      have lr := R.out.lt
      go_wp2
      refine bodyPost_ret (v := .tuple #[.agg #[.slice none 0 0, .slice none 0 0, .slice none 0 0, .int .i64 0, .int .i64 0], .bool false]) (by simp [results, Tryz.results112, go_sem, kr, fr, lr]) rfl (.inl ⟨E.out, rfl, ?_⟩)
      exact (((((BL.out.setCell (p := ⟨w.heap.size, 0, none⟩) (Nat.le_refl _) _).setCell (p := ⟨w.heap.size, 1, none⟩) (Nat.le_refl _) _).setCell (p := ⟨w.heap.size, 2, none⟩) (Nat.le_refl _) _).setCell (p := ⟨w.heap.size, 3, none⟩) (Nat.le_refl _) _).setCell (p := ⟨w.heap.size, 4, none⟩) (Nat.le_refl _) _)
    · have HPP := Lib.hid hpar
      have HN0 := Lib.hid h0
      clear hpar i0
      go_wp2_with fail
      refine (HIv.out _ HX.out).mono ?_
      rintro e w3 ⟨u5, rfl, hO, hb⟩
      replace HX := Lib.hid (HX.out.below hb)
      replace R := Lib.hid (R.out.below hb R.out.lt)
      replace BL := Lib.hid (bthen BL.out hb)
      have HU := Lib.hid hO.sl
      clear hb hO
      obtain ⟨A5, c5, rfl⟩ := HU.out.opn
      rw [HIL.out] at HU ⊢
      go_wp2_with fail
      refine (HFu.out _).mono ?_
      rintro e _ ⟨rfl, rfl⟩
      go_wp2_with fail
      refine (HLo.out F _ hF30 HX.out).mono ?_
      rintro e _ ⟨rfl, rfl⟩
      rw [HBo.out]
      go_wp2_with fail
      refine (HFu.out _).mono ?_
      rintro e _ ⟨rfl, rfl⟩
      go_wp2_with fail
      refine (HLb.out _ F _ hF30 HU.out).mono ?_
      rintro e _ ⟨rfl, rfl⟩
      rw [HTo.out]
      clear HFu HBo HTo hF30 HPa HIv
      obtain ⟨bt, hbt⟩ : ∃ z, botI ns = z := ⟨_, rfl⟩
      obtain ⟨tp, htp⟩ : ∃ z, topI ns = z := ⟨_, rfl⟩
      have HBT := Lib.hid hbt
      have HTP := Lib.hid htp
      rw [hbt, htp]
      clear hbt htp
      go_upto_region 6 with fail
      have hb := below_alloc' w3 (.cells #[.slice none 0 0, .slice none 0 0, .slice none 0 0, .int .i64 bt, .int .i64 tp] 26)
      have G := Lib.hid (Blk.new w3 26 #[.slice none 0 0, .slice none 0 0, .slice none 0 0, .int .i64 bt, .int .i64 tp])
      have R3 := R
      have BL3 := BL
      have ZR := Lib.hid R.out.lt
      replace R := Lib.hid (R.out.below hb R.out.lt)
      replace BL := Lib.hid (bthen BL.out hb)
      have H34 := Lib.hid hb
      clear hb
      generalize World.alloc w3 _ = w4 at *
      have kg := G.out.cell
      have lg := G.out.lt
      by_cases hbt0 : bt < 0
      · have E : Hid (¬ hbOk ns) := Lib.hid (fun hk => by have := hk.2.2.1; rw [HBT.out] at this; omega)
        have kr := R.out.cell
        have fr := R.out.frozen
        have lr := R.out.lt
        go_wp2
        refine bodyPost_ret (v := .tuple #[.agg #[.slice none 0 0, .slice none 0 0, .slice none 0 0, .int .i64 0, .int .i64 0], .bool false]) (by simp [results, Tryz.results112, go_sem, kr, fr, lr]) rfl (.inl ⟨E.out, rfl, ?_⟩)
        exact (((((BL.out.setCell (p := ⟨w.heap.size, 0, none⟩) (Nat.le_refl _) _).setCell (p := ⟨w.heap.size, 1, none⟩) (Nat.le_refl _) _).setCell (p := ⟨w.heap.size, 2, none⟩) (Nat.le_refl _) _).setCell (p := ⟨w.heap.size, 3, none⟩) (Nat.le_refl _) _).setCell (p := ⟨w.heap.size, 4, none⟩) (Nat.le_refl _) _)
      · by_cases htp0 : tp < 0
        · have E : Hid (¬ hbOk ns) := Lib.hid (fun hk => by have := hk.2.2.2.1; rw [HTP.out] at this; omega)
          have kr := R.out.cell
          have fr := R.out.frozen
          have lr := R.out.lt
          go_wp2
          refine bodyPost_ret (v := .tuple #[.agg #[.slice none 0 0, .slice none 0 0, .slice none 0 0, .int .i64 0, .int .i64 0], .bool false]) (by simp [results, Tryz.results112, go_sem, kr, fr, lr]) rfl (.inl ⟨E.out, rfl, ?_⟩)
          exact (((((BL.out.setCell (p := ⟨w.heap.size, 0, none⟩) (Nat.le_refl _) _).setCell (p := ⟨w.heap.size, 1, none⟩) (Nat.le_refl _) _).setCell (p := ⟨w.heap.size, 2, none⟩) (Nat.le_refl _) _).setCell (p := ⟨w.heap.size, 3, none⟩) (Nat.le_refl _) _).setCell (p := ⟨w.heap.size, 4, none⟩) (Nat.le_refl _) _)
        · have HB0 := Lib.hid (show 0 ≤ botI ns by rw [HBT.out]; omega)
          have HT0 := Lib.hid (show 0 ≤ topI ns by rw [HTP.out]; omega)
          go_wp2
          clear kg lg BL R hbt0 htp0
          go_loopw [7] (fun i wr => ∃ x : Nat, x ≤ ns.length ∧ i = .int .i64 x ∧ (∃ av ov, OwT (w3.heap.size + 1) wr av (tabI (fA ns) ns.length x) ∧ OwT (w3.heap.size + 1) wr ov (tabI (fO ns) ns.length x) ∧ Blk wr w3.heap.size 26 #[av, ov, .slice none 0 0, .int .i64 bt, .int .i64 tp]) ∧ Below w3.heap.size w3 wr ∧ ∀ x', x' < x → ∀ y, y < ns.length → 0 ≤ fA ns x' y ∧ 0 ≤ fO ns x' y) (fun i _ => ns.length - (intOf i).toNat)
          case atStart => exact ⟨0, Nat.zero_le _, rfl, ⟨_, _, OwT.nil _ _, OwT.nil _ _, G.out⟩, H34.out, fun x' h => by omega⟩
          case round =>
            obtain ⟨x, hx, rfl, ⟨av, ov, TA, TO, G⟩, hb, hgood⟩ := hrel
            obtain ⟨w5, hw5⟩ : ∃ W, W = wr := ⟨_, rfl⟩
            subst hw5
            replace TA := Lib.hid TA
            replace TO := Lib.hid TO
            replace G := Lib.hid G
            have HG := Lib.hid hgood
            have B5 := Lib.hid hb
            have R := Lib.hid (R3.out.below hb ZR.out)
            have BL := Lib.hid (BL3.out.trans (hb.mono BL3.out.size))
            have HX5 := Lib.hid (HX.out.below hb)
            have HU5 := Lib.hid (HU.out.below hb)
            have hG5 := G.out.lt
            clear hgood hb
            by_cases hlt : x < ns.length
            · go_wp2
              go_loopw [8, 9, 10] (fun p q i wr => ∃ y : Nat, y ≤ ns.length ∧ i = .int .i64 y ∧ Ow cI 2 w5.heap.size wr p (rowI (fA ns) x y) ∧ Ow cI 2 w5.heap.size wr q (rowI (fO ns) x y) ∧ (∀ k, p.ownBlock = some k → q.ownBlock ≠ some k) ∧ Below w5.heap.size w5 wr ∧ ∀ y', y' < y → 0 ≤ fA ns x y' ∧ 0 ≤ fO ns x y') (fun _ _ i _ => ns.length - (intOf i).toNat)
              case atStart => exact ⟨0, Nat.zero_le _, rfl, (Ow.lit (K := cI) [] rfl rfl (Nat.le_refl _)).alloc _, Ow.lit' (K := cI) [] (by simp) rfl rfl (by omega), fun k h1 h2 => (by have e1 : w5.heap.size = k := Option.some.inj h1; have e2 : w5.heap.size + 1 = k := Option.some.inj h2; omega), bthen (below_alloc' _ _) (below_alloc' _ _), fun y' h => by omega⟩
              case round =>
                obtain ⟨y, hy, rfl, OP, OQ, dj, hb6, hgood2⟩ := hrel
                obtain ⟨w6, hw6⟩ : ∃ W, W = wr := ⟨_, rfl⟩
                subst hw6
                obtain ⟨Ap, cp, rfl⟩ := OP.opn
                obtain ⟨Aq, cq, rfl⟩ := OQ.opn
                rw [rowI_length] at OP
                rw [rowI_length] at OQ
                rw [rowI_length (fA ns) x y, rowI_length (fO ns) x y] at dj ⊢
                replace OP := Lib.hid OP
                replace OQ := Lib.hid OQ
                replace dj := Lib.hid dj
                have B6 := Lib.hid hb6
                have HG2 := Lib.hid hgood2
                have HX6 := Lib.hid (HX5.out.below hb6)
                have HU6 := Lib.hid (HU5.out.below hb6)
                have z56 := hb6.size
                clear hb6 hgood2
                by_cases hlt2 : y < ns.length
                · obtain ⟨b, o, rfl, hbl, hcx⟩ := HX6.out.atI (k := x) (by rw [HL.out]; exact hlt)
                  obtain ⟨b', o', hE', -, hcy⟩ := HX6.out.atI (k := y) (by rw [HL.out]; exact hlt2)
                  injection hE' with hE'
                  injection hE' with hE1 hE3
                  subst hE1; subst hE3
                  obtain ⟨d, q, rfl, hdl, hdx⟩ := HU6.out.atI (k := x) (by rw [HIL.out]; exact hlt)
                  obtain ⟨d', q', hE', -, hdy⟩ := HU6.out.atI (k := y) (by rw [HIL.out]; exact hlt2)
                  injection hE' with hE'
                  injection hE' with hE1 hE3
                  subst hE1; subst hE3
                  rw [li_get] at hcx hcy hdx hdy
                  have h1 := HR.out.lt x
                  have h2 := HR.out.lt y
                  have h3 := HRI.out.lt x
                  have h4 := HRI.out.lt y
                  have eO := Lib.hid (i64_and_nat (ns.getD x 0) (ns.getD y 0) (by omega) (by omega))
                  have eA := Lib.hid (i64_and_nat ((inv ns).getD x 0) ((inv ns).getD y 0) (by omega) (by omega))
                  have HcA := Lib.hid (fun W hW => HLb.out (.slice (some ⟨d, q, none⟩) ns.length c5) ((inv ns).getD x 0 &&& (inv ns).getD y 0) W (Nat.lt_of_le_of_lt Nat.and_le_left h3) hW)
                  have HcO := Lib.hid (fun W hW => HLo.out (ns.getD x 0 &&& ns.getD y 0) W (Nat.lt_of_le_of_lt Nat.and_le_left h1) hW)
                  have efA : lwI (inv ns) ((inv ns).getD x 0 &&& (inv ns).getD y 0) = fA ns x y := rfl
                  have efO : lwI ns (ns.getD x 0 &&& ns.getD y 0) = fO ns x y := rfl
                  rw [efA] at HcA
                  rw [efO] at HcO
                  clear efA efO
                  have EFB : Hid (¬ (0 ≤ fA ns x y ∧ 0 ≤ fO ns x y) → ¬ hbOk ns) := Lib.hid (fun hn hk => hn (hk.2.2.2.2.1 x hlt y hlt2))
                  have HGN : Hid (0 ≤ fA ns x y ∧ 0 ≤ fO ns x y → ∀ y', y' < y + 1 → 0 ≤ fA ns x y' ∧ 0 ≤ fO ns x y') := Lib.hid (fun hk y' hy' => by
                    rcases Nat.lt_or_ge y' y with h1 | h1
                    · exact HG2.out y' h1
                    · obtain rfl : y' = y := by omega
                      exact hk)
                  have HRA := Lib.hid (rowI_get (fA ns) x (y + 1) y (by rw [rowI_length]; omega))
                  have HRO := Lib.hid (rowI_get (fO ns) x (y + 1) y (by rw [rowI_length]; omega))
                  obtain ⟨b5, o5, hE5, hb5b, hc5x⟩ := HX5.out.atI (k := x) (by rw [HL.out]; exact hlt)
                  obtain ⟨b6, o6, hE6, -, hc5y⟩ := HX5.out.atI (k := y) (by rw [HL.out]; exact hlt2)
                  injection hE5 with hE5
                  injection hE5 with hE1 hE3
                  subst hE1; subst hE3
                  injection hE6 with hE6
                  injection hE6 with hE1 hE3
                  subst hE1; subst hE3
                  rw [li_get] at hc5x hc5y
                  have RA := Lib.hid (rowI_succ (fA ns) x y)
                  have RO := Lib.hid (rowI_succ (fO ns) x y)
                  have RLA := Lib.hid (rowI_length (fA ns) x y)
                  have RLO := Lib.hid (rowI_length (fO ns) x y)
                  generalize fA ns x y = ra at *
                  generalize fO ns x y = ro at *
                  generalize ns.getD x 0 = m1 at *
                  generalize ns.getD y 0 = m2 at *
                  generalize (inv ns).getD x 0 = k1 at *
                  generalize (inv ns).getD y 0 = k2 at *
                  clear h1 h2 h3 h4
                  have z5 := hG5
                  go_upto_region 15 with fail
                  have hI := (Below.refl w6.heap.size w6).drew
                  refine wp_region_sched (Below w6.heap.size w6) 13 [0, 1, 2, 3, 4, 5, 6, 7, 8, 9, 10] [0, 1, 2, 3, 4, 5, 6, 7, 8, 9, 10, 11, 12] (by kernel_rfl) (by kernel_rfl) hI ?_
                  repeat
                    apply wpSched_q rfl rfl
                    case h =>
                      intro w' hI K hK
                      have hdx' := (hI.cell (p := ⟨d, q + x, none⟩) hdl).trans hdx
                      have hdy' := (hI.cell (p := ⟨d, q + y, none⟩) hdl).trans hdy
                      simp only [quietV, stillV]
                      go_simp
                      exact hK
                    go_simp
                  rw [eA.out]
                  refine wpSched_r rfl rfl ?_ hI
                  intro K hK _
                  go_simp
                  refine (HcA.out _ (HU6.out.below hI)).mono ?_
                  rintro e _ ⟨rfl, rfl⟩
                  refine hK _ _ hI ?_
                  clear hK K
                  refine wpSched_r rfl rfl ?_ hI
                  intro K hK _
                  go_simp
                  refine hK _ _ (by first | exact hI.alloc hI.size _ | exact (hI.alloc hI.size _).drew | exact ((Below.refl _ _).alloc (Nat.le_refl _) _).drew) ?_
                  clear hK K
                  refine wpSched_nil ?_
                  try simp only [List.drop_succ_cons, List.drop_zero, List.drop_nil]
                  have hD := (Below.refl w6.heap.size w6).drew
                  clear hI
                  change wpList _ _ _ _ _ (World.alloc (World.drew w6) _)
                  refine ap_one (K := cI) (World.drew w6) ty_int64 rfl _ _ rfl (B := w5.heap.size) (v := .slice Ap y cp) (xs := rowI (fA ns) x y) rfl (OP.out.below hD) (ra : Int) rfl rfl (by have := RLA.out; omega) (by show w5.heap.size ≤ w6.heap.size; omega) ?_
                  intro v1 w7 ho1 hg1 hb1 hat1
                  rw [← RA.out] at ho1
                  have N1 := Lib.hid ho1
                  have hbw : Below w5.heap.size w6 w7 := ((Below.refl w5.heap.size w6).drew).trans hb1
                  have hsz7 := hbw.size
                  have NQ := Lib.hid (((OQ.out.below (Below.refl w6.heap.size w6).drew).alloc _).kept hg1 (by
                    cases hq : (Value.slice Aq y cq).ownBlock with
                    | none => exact .inl rfl
                    | some k => exact .inr (fun e => dj.out k e.symm hq)))
                  have ND : Hid (∀ k, v1.ownBlock = some k → (Value.slice Aq y cq).ownBlock ≠ some k) := Lib.hid (fun k hk e => by
                    rcases hat1 with h1 | h1
                    · exact dj.out k (h1 ▸ hk) e
                    · rw [h1] at hk
                      injection hk with hk
                      have h2 : k < w6.heap.size := (OQ.out.block k e).2
                      have h3 : (World.drew w6).heap.size = w6.heap.size := rfl
                      omega)
                  have B7 := Lib.hid (B6.out.trans (hbw.mono (Nat.le_refl _)))
                  have HX7 := Lib.hid (HX5.out.below B7.out)
                  have HU7 := Lib.hid (HU5.out.below B7.out)
                  obtain ⟨A1, c1, hv1⟩ := N1.out.opn
                  rw [rowI_length] at hv1
                  subst hv1
                  clear ho1 hg1 hb1 hat1 hbw hcx hcy hdx hdy hD OP OQ dj
                  have hc7x : w7.cell? ⟨b, o + x, none⟩ = some (.int .i64 (m1 : Int)) := (B7.out.cell (p := ⟨b, o + x, none⟩) hb5b).trans hc5x
                  have hc7y : w7.cell? ⟨b, o + y, none⟩ = some (.int .i64 (m2 : Int)) := (B7.out.cell (p := ⟨b, o + y, none⟩) hb5b).trans hc5y
                  have hbl7 : b < w7.heap.size := Nat.lt_of_lt_of_le hb5b B7.out.size
                  clear hc5x hc5y hb5b hbl hdl
                  have z57 := B7.out.size
                  have M1 := N1
                  clear N1
                  go_upto_region 16 with fail
                  have hI := (Below.refl w7.heap.size w7).drew
                  refine wp_region_sched (Below w7.heap.size w7) 13 [0, 1, 2, 3, 4, 5, 6, 7, 8, 9, 10] [0, 1, 2, 3, 4, 5, 6, 7, 8, 9, 10, 11, 12] (by kernel_rfl) (by kernel_rfl) hI ?_
                  repeat
                    apply wpSched_q rfl rfl
                    case h =>
                      intro w' hI K hK
                      have hc7x' := (hI.cell (p := ⟨b, o + x, none⟩) hbl7).trans hc7x
                      have hc7y' := (hI.cell (p := ⟨b, o + y, none⟩) hbl7).trans hc7y
                      simp only [quietV, stillV]
                      go_simp
                      exact hK
                    go_simp
                  rw [eO.out]
                  refine wpSched_r rfl rfl ?_ hI
                  intro K hK _
                  go_simp
                  refine (HcO.out _ (HX7.out.below hI)).mono ?_
                  rintro e _ ⟨rfl, rfl⟩
                  refine hK _ _ hI ?_
                  clear hK K
                  refine wpSched_r rfl rfl ?_ hI
                  intro K hK _
                  go_simp
                  refine hK _ _ (by first | exact hI.alloc hI.size _ | exact (hI.alloc hI.size _).drew | exact ((Below.refl _ _).alloc (Nat.le_refl _) _).drew) ?_
                  clear hK K
                  refine wpSched_nil ?_
                  try simp only [List.drop_succ_cons, List.drop_zero, List.drop_nil]
                  have hD := (Below.refl w7.heap.size w7).drew
                  clear hI
                  change wpList _ _ _ _ _ (World.alloc (World.drew w7) _)
                  refine ap_one (K := cI) (World.drew w7) ty_int64 rfl _ _ rfl (B := w5.heap.size) (v := .slice Aq y cq) (xs := rowI (fO ns) x y) rfl (NQ.out.below hD) (ro : Int) rfl rfl (by have := RLO.out; omega) (by show w5.heap.size ≤ w7.heap.size; omega) ?_
                  intro v1 w8 ho1 hg1 hb1 hat1
                  rw [← RO.out] at ho1
                  have N1 := Lib.hid ho1
                  have hbw : Below w5.heap.size w7 w8 := ((Below.refl w5.heap.size w7).drew).trans hb1
                  have MP := Lib.hid (((M1.out.below (Below.refl w7.heap.size w7).drew).alloc _).kept hg1 (by
                    cases hq : (Value.slice A1 (y + 1) c1).ownBlock with
                    | none => exact .inl rfl
                    | some k => exact .inr (fun e => ND.out k hq e.symm)))
                  have NE : Hid (∀ k, (Value.slice A1 (y + 1) c1).ownBlock = some k → v1.ownBlock ≠ some k) := Lib.hid (fun k hk e => by
                    rcases hat1 with h1 | h1
                    · exact ND.out k hk (h1 ▸ e)
                    · rw [h1] at e
                      injection e with e
                      have h2 : k < w7.heap.size := (M1.out.block k hk).2
                      have h3 : (World.drew w7).heap.size = w7.heap.size := rfl
                      omega)
                  have B8 := Lib.hid (B7.out.trans hbw)
                  obtain ⟨A2, c2, hv2⟩ := N1.out.opn
                  rw [rowI_length] at hv2
                  subst hv2
                  clear ho1 hg1 hb1 hat1 hbw hc7x hc7y hD NQ ND M1
                  obtain ⟨b1, o1, rfl, hl1, hr1⟩ := MP.out.sl.atI (k := y) (by rw [rowI_length]; omega)
                  obtain ⟨b2, o2, rfl, hl2, hr2⟩ := N1.out.sl.atI (k := y) (by rw [rowI_length]; omega)
                  have e1 : (rowI (fA ns) x (y + 1))[y]'(by rw [rowI_length]; omega) = ra := HRA.out
                  have e2 : (rowI (fO ns) x (y + 1))[y]'(by rw [rowI_length]; omega) = ro := HRO.out
                  rw [e1] at hr1
                  rw [e2] at hr2
                  clear e1 e2
                  by_cases ha : ra < 0
                  · have E := Lib.hid (EFB.out fun hk => absurd hk.1 (by omega))
                    have R := Lib.hid (R.out.below B8.out R.out.lt)
                    have BL := Lib.hid (bthen BL.out B8.out)
                    have kr := R.out.cell
                    have fr := R.out.frozen
                    have lr := R.out.lt
                    go_wp2
                    refine bodyPost_ret (v := .tuple #[.agg #[.slice none 0 0, .slice none 0 0, .slice none 0 0, .int .i64 0, .int .i64 0], .bool false]) (by simp [results, Tryz.results112, go_sem, kr, fr, lr]) rfl (.inl ⟨E.out, rfl, ?_⟩)
                    exact (((((BL.out.setCell (p := ⟨w.heap.size, 0, none⟩) (Nat.le_refl _) _).setCell (p := ⟨w.heap.size, 1, none⟩) (Nat.le_refl _) _).setCell (p := ⟨w.heap.size, 2, none⟩) (Nat.le_refl _) _).setCell (p := ⟨w.heap.size, 3, none⟩) (Nat.le_refl _) _).setCell (p := ⟨w.heap.size, 4, none⟩) (Nat.le_refl _) _)
                  · by_cases hoo : ro < 0
                    · have E := Lib.hid (EFB.out fun hk => absurd hk.2 (by omega))
                      have R := Lib.hid (R.out.below B8.out R.out.lt)
                      have BL := Lib.hid (bthen BL.out B8.out)
                      have kr := R.out.cell
                      have fr := R.out.frozen
                      have lr := R.out.lt
                      go_wp2
                      refine bodyPost_ret (v := .tuple #[.agg #[.slice none 0 0, .slice none 0 0, .slice none 0 0, .int .i64 0, .int .i64 0], .bool false]) (by simp [results, Tryz.results112, go_sem, kr, fr, lr]) rfl (.inl ⟨E.out, rfl, ?_⟩)
                      exact (((((BL.out.setCell (p := ⟨w.heap.size, 0, none⟩) (Nat.le_refl _) _).setCell (p := ⟨w.heap.size, 1, none⟩) (Nat.le_refl _) _).setCell (p := ⟨w.heap.size, 2, none⟩) (Nat.le_refl _) _).setCell (p := ⟨w.heap.size, 3, none⟩) (Nat.le_refl _) _).setCell (p := ⟨w.heap.size, 4, none⟩) (Nat.le_refl _) _)
                    · have E := Lib.hid (HGN.out ⟨by omega, by omega⟩)
                      go_wp2
                      exact ⟨⟨y + 1, by omega, by go_num, MP.out, N1.out, NE.out, B8.out, E.out⟩, by simp [intOf]; omega⟩
                · obtain rfl : y = ns.length := by omega
                  have HGX : Hid (∀ x', x' < x + 1 → ∀ y, y < ns.length → 0 ≤ fA ns x' y ∧ 0 ≤ fO ns x' y) := Lib.hid (fun x' hx' y hy => by
                    rcases Nat.lt_or_ge x' x with h1 | h1
                    · exact HG.out x' h1 y hy
                    · obtain rfl : x' = x := by omega
                      exact HG2.out y hy)
                  have z5 := hG5
                  have G6 := Lib.hid (G.out.below B6.out hG5)
                  have TA6 := Lib.hid (OwT.below TA.out B6.out)
                  have TO6 := Lib.hid (OwT.below TO.out B6.out)
                  have B36 := Lib.hid (B5.out.trans (B6.out.mono (show w3.heap.size ≤ w5.heap.size by omega)))
                  clear TA TO G
                  obtain ⟨hs, h1, h2, h3⟩ := TA6.out
                  obtain ⟨Aa, ca, hav⟩ := h1.opn
                  subst hav
                  have hhl : hs.length = x := by rw [h2, tabI_length]
                  have kg := G6.out.cell
                  have fg := G6.out.frozen
                  have lg := G6.out.lt
                  have H1 := Lib.hid h1
                  have H2 := Lib.hid h2
                  have H3 := Lib.hid h3
                  have HHL := Lib.hid hhl
                  clear h1 h2 h3 hhl
                  go_wp2_with (at_builtin; refine stopHere ?_)
                  refine goHere ?_
                  refine ap_any (K := cH) _ ty_intss rfl _ _ rfl (B := w6.heap.size) (v := .slice (some ⟨w6.heap.size, 0, none⟩) 0 0) (xs := []) rfl (Ow.lit (K := cH) [] rfl rfl (Nat.le_refl _)) (news := hs) rfl rfl (slRd (H1.out.below (below_alloc' _ _)).sl) (by have := HHL.out; simp only [List.length_nil]; omega) (by rw [size_alloc']; omega) ?_
                  intro v1 Wb ho1 hg1 hb1 hat1
                  rw [List.nil_append] at ho1
                  have hbw := (below_alloc' w6 (.cells #[] 27)).trans hb1
                  obtain ⟨Ab, cb, hv1⟩ := ho1.opn
                  subst hv1
                  have N1 := Lib.hid ho1
                  have HBW := Lib.hid hbw
                  have hzb := hbw.size
                  clear ho1 hg1 hb1 hat1 hbw kg fg lg
                  have G7 := Lib.hid (G6.out.below HBW.out G6.out.lt)
                  have kg := G7.out.cell
                  have fg := G7.out.frozen
                  have lg := G7.out.lt
                  go_wp2_with (at_builtin; refine stopHere ?_)
                  refine goHere ?_
                  refine ap_one (K := cH) _ ty_intss rfl _ _ rfl (B := w6.heap.size) (xs := hs) rfl N1.out (⟨Ap, ns.length, cp⟩ : Hd) rfl rfl (by have := HHL.out; omega) hzb ?_
                  intro v2 Wc ho2 hg2 hb2 hat2
                  have hbc := HBW.out.trans hb2
                  have zW := G6.out.lt
                  have T2 := Lib.hid (OwT.more (hd := ⟨Ap, ns.length, cp⟩) H2.out (fun i a b => (H3.out i a b).1) (OP.out.mono (show w3.heap.size + 1 ≤ w5.heap.size by omega)) (ho2.mono (show w3.heap.size + 1 ≤ w6.heap.size by omega)) hbc (fun k hk => (ho2.block k hk).1))
                  rw [← tabI_succ] at T2
                  obtain ⟨A2, c2, hv2⟩ := ho2.opn
                  rw [List.length_append, List.length_singleton] at hv2
                  subst hv2
                  have G8 := Lib.hid (G6.out.below hbc G6.out.lt)
                  clear kg fg lg G7
                  have kg := G8.out.cell
                  have fg := G8.out.frozen
                  have lg := G8.out.lt
                  have T3 := Lib.hid (OwT.setBelow T2.out (p := ⟨w3.heap.size, 0, none⟩) (Nat.lt_succ_self _) (.slice A2 (hs.length + 1) c2))
                  have G9 := Lib.hid (G8.out.set_ 0 (.slice A2 (hs.length + 1) c2))
                  have TO69 := Lib.hid (OwT.setBelow (OwT.below TO6.out hbc) (p := ⟨w3.heap.size, 0, none⟩) (Nat.lt_succ_self _) (.slice A2 (hs.length + 1) c2))
                  have OQ9 := Lib.hid ((OQ.out.below hbc).setBelow (p := ⟨w3.heap.size, 0, none⟩) (show w3.heap.size < w5.heap.size by omega) (.slice A2 (hs.length + 1) c2))
                  have B9 := Lib.hid ((B36.out.trans (hbc.mono (show w3.heap.size ≤ w6.heap.size by omega))).setCell (p := ⟨w3.heap.size, 0, none⟩) (Nat.le_refl _) (.slice A2 (hs.length + 1) c2))
                  clear ho2 hg2 hb2 hat2 hbc T2 G8 N1 HBW H1 H3
                  go_upto_region 20 with fail
                  generalize World.setCell Wc _ _ = w7 at *
                  clear kg fg lg
                  have T3a := T3
                  have G7 := G9
                  have B37 := B9
                  clear T3 G9 B9 TA6 G6 B36
                  obtain ⟨av2, hav2⟩ : ∃ z, (Value.slice A2 (hs.length + 1) c2) = z := ⟨_, rfl⟩
                  rw [hav2] at T3a G7
                  clear hav2 zW hzb H2 HHL
                  have G77 : Hid (Blk w7 w3.heap.size 26 #[av2, ov, .slice none 0 0, .int .i64 bt, .int .i64 tp]) := Lib.hid (by have := G7.out; simpa using this)
                  clear G7
                  obtain ⟨hs, h1, h2, h3⟩ := TO69.out
                  obtain ⟨Aa, ca, hav⟩ := h1.opn
                  subst hav
                  have hhl : hs.length = x := by rw [h2, tabI_length]
                  have kg := G77.out.cell
                  have fg := G77.out.frozen
                  have lg := G77.out.lt
                  have H1 := Lib.hid h1
                  have H2 := Lib.hid h2
                  have H3 := Lib.hid h3
                  have HHL := Lib.hid hhl
                  clear h1 h2 h3 hhl
                  go_wp2_with (at_builtin; refine stopHere ?_)
                  refine goHere ?_
                  refine ap_any (K := cH) _ ty_intss rfl _ _ rfl (B := w7.heap.size) (v := .slice (some ⟨w7.heap.size, 0, none⟩) 0 0) (xs := []) rfl (Ow.lit (K := cH) [] rfl rfl (Nat.le_refl _)) (news := hs) rfl rfl (slRd (H1.out.below (below_alloc' _ _)).sl) (by have := HHL.out; simp only [List.length_nil]; omega) (by rw [size_alloc']; omega) ?_
                  intro v1 Wb ho1 hg1 hb1 hat1
                  rw [List.nil_append] at ho1
                  have hbw := (below_alloc' w7 (.cells #[] 27)).trans hb1
                  obtain ⟨Ab, cb, hv1⟩ := ho1.opn
                  subst hv1
                  have N1 := Lib.hid ho1
                  have HBW := Lib.hid hbw
                  have hzb := hbw.size
                  clear ho1 hg1 hb1 hat1 hbw kg fg lg
                  have G7 := Lib.hid (G77.out.below HBW.out G77.out.lt)
                  have kg := G7.out.cell
                  have fg := G7.out.frozen
                  have lg := G7.out.lt
                  go_wp2_with (at_builtin; refine stopHere ?_)
                  refine goHere ?_
                  refine ap_one (K := cH) _ ty_intss rfl _ _ rfl (B := w7.heap.size) (xs := hs) rfl N1.out (⟨Aq, ns.length, cq⟩ : Hd) rfl rfl (by have := HHL.out; omega) hzb ?_
                  intro v2 Wc ho2 hg2 hb2 hat2
                  have hbc := HBW.out.trans hb2
                  have zW := G77.out.lt
                  have T2 := Lib.hid (OwT.more (hd := ⟨Aq, ns.length, cq⟩) H2.out (fun i a b => (H3.out i a b).1) (OQ9.out.mono (show w3.heap.size + 1 ≤ w5.heap.size by omega)) (ho2.mono (show w3.heap.size + 1 ≤ w7.heap.size by omega)) hbc (fun k hk => (ho2.block k hk).1))
                  rw [← tabI_succ] at T2
                  obtain ⟨A2, c2, hv2⟩ := ho2.opn
                  rw [List.length_append, List.length_singleton] at hv2
                  subst hv2
                  have G8 := Lib.hid (G77.out.below hbc G77.out.lt)
                  clear kg fg lg G7
                  have kg := G8.out.cell
                  have fg := G8.out.frozen
                  have lg := G8.out.lt
                  have T3 := Lib.hid (OwT.setBelow T2.out (p := ⟨w3.heap.size, 1, none⟩) (Nat.lt_succ_self _) (.slice A2 (hs.length + 1) c2))
                  have G9 := Lib.hid (G8.out.set_ 1 (.slice A2 (hs.length + 1) c2))
                  have T3a9 := Lib.hid (OwT.setBelow (OwT.below T3a.out hbc) (p := ⟨w3.heap.size, 1, none⟩) (Nat.lt_succ_self _) (.slice A2 (hs.length + 1) c2))
                  have B9 := Lib.hid ((B37.out.trans (hbc.mono (show w3.heap.size ≤ w7.heap.size by omega))).setCell (p := ⟨w3.heap.size, 1, none⟩) (Nat.le_refl _) (.slice A2 (hs.length + 1) c2))
                  clear ho2 hg2 hb2 hat2 hbc T2 G8 N1 HBW H1 H3
                  go_wp2
                  clear kg fg lg
                  exact ⟨⟨x + 1, by omega, by go_num, ⟨_, _, T3a9.out, T3.out, by have := G9.out; simpa using this⟩, B9.out, HGX.out⟩, by simp [intOf]; omega⟩
            · obtain rfl : x = ns.length := by omega
              have kg := G.out.cell
              have lg := G.out.lt
              go_wp2
              clear kg lg R BL HX5 HU5
              go_loopw [11] (fun i wr => ∃ x : Nat, x ≤ ns.length ∧ i = .int .i64 x ∧ (∃ iv, OwT (w3.heap.size + 1) wr iv (tabI (fI ns) ns.length x) ∧ Blk wr w3.heap.size 26 #[av, ov, iv, .int .i64 bt, .int .i64 tp]) ∧ OwT (w3.heap.size + 1) wr av (tabI (fA ns) ns.length ns.length) ∧ OwT (w3.heap.size + 1) wr ov (tabI (fO ns) ns.length ns.length) ∧ Below w3.heap.size w3 wr ∧ ∀ x', x' < x → ∀ y, y < ns.length → 0 ≤ fI ns x' y) (fun i _ => ns.length - (intOf i).toNat)
              case atStart => exact ⟨0, Nat.zero_le _, rfl, ⟨_, OwT.nil _ _, G.out⟩, TA.out, TO.out, B5.out, fun x' h => by omega⟩
              case round =>
                clear TA TO G B5 hG5
                obtain ⟨x, hx, rfl, ⟨iv, TI, G⟩, TA, TO, hb, hgood⟩ := hrel
                obtain ⟨w6, hw6⟩ : ∃ W, W = wr := ⟨_, rfl⟩
                subst hw6
                replace TI := Lib.hid TI
                replace TA := Lib.hid TA
                replace TO := Lib.hid TO
                replace G := Lib.hid G
                have HGI := Lib.hid hgood
                have B6 := Lib.hid hb
                have R := Lib.hid (R3.out.below hb ZR.out)
                have BL := Lib.hid (BL3.out.trans (hb.mono BL3.out.size))
                have hG6 := G.out.lt
                clear hgood hb
                by_cases hlt : x < ns.length
                · go_wp2
                  go_loopw [12, 13] (fun p i wr => ∃ y : Nat, y ≤ ns.length ∧ i = .int .i64 y ∧ Ow cI 2 w6.heap.size wr p (rowI (fI ns) x y) ∧ Below w6.heap.size w6 wr ∧ ∀ y', y' < y → 0 ≤ fI ns x y') (fun _ i _ => ns.length - (intOf i).toNat)
                  case atStart => exact ⟨0, Nat.zero_le _, rfl, Ow.lit (K := cI) [] rfl rfl (Nat.le_refl _), below_alloc' _ _, fun y' h => by omega⟩
                  case round =>
                    obtain ⟨y, hy, rfl, OP, hb7, hgood2⟩ := hrel
                    obtain ⟨w7, hw7⟩ : ∃ W, W = wr := ⟨_, rfl⟩
                    subst hw7
                    obtain ⟨Ap, cp, rfl⟩ := OP.opn
                    rw [rowI_length] at OP ⊢
                    replace OP := Lib.hid OP
                    have B7 := Lib.hid hb7
                    have HG2 := Lib.hid hgood2
                    have z67 := hb7.size
                    have TA7 := Lib.hid (OwT.below TA.out hb7)
                    have G7 := Lib.hid (G.out.below hb7 hG6)
                    have HX7 := Lib.hid (HX.out.below (B6.out.trans (hb7.mono (show w3.heap.size ≤ w6.heap.size by omega))))
                    have HU7 := Lib.hid (HU.out.below (B6.out.trans (hb7.mono (show w3.heap.size ≤ w6.heap.size by omega))))
                    clear hb7 hgood2
                    by_cases hlt2 : y < ns.length
                    · go_wp2
                      go_loop [14, 15] (fun m i => ∃ z : Nat, z ≤ ns.length ∧ i = .int .i64 z ∧ m = .int .i64 (msk (fun z => (ns.getD (fA ns z x).toNat 0).testBit y) z : Nat)) (fun _ i => ns.length - (intOf i).toNat)
                      case atStart => exact ⟨0, Nat.zero_le _, rfl, rfl⟩
                      case round =>
                        obtain ⟨z, hz, rfl, rfl⟩ := hrel
                        by_cases hlt3 : z < ns.length
                        · obtain ⟨a, ha⟩ : ∃ a : Nat, fA ns z x = a := ⟨(fA ns z x).toNat, by have := (HG.out z hlt3 x hlt).1; omega⟩
                          have han : a < ns.length := by
                            have h1 : fA ns z x < (inv ns).length ∨ (inv ns).length = 0 := lwI_lt (inv ns) _
                            rw [inv_length] at h1
                            omega
                          have hMs : msk (fun z => (ns.getD (fA ns z x).toNat 0).testBit y) (z + 1) = msk (fun z => (ns.getD (fA ns z x).toNat 0).testBit y) z ||| if (ns.getD (fA ns z x).toNat 0).testBit y then 2 ^ z else 0 := rfl
                          rw [show (fA ns z x).toNat = a by omega] at hMs
                          have HMs := Lib.hid hMs
                          clear hMs
                          have hm := Nat.lt_of_lt_of_le (msk_lt (fun z => (ns.getD (fA ns z x).toNat 0).testBit y) z) (two_pow_30 (show z ≤ 30 by omega))
                          obtain ⟨Av, cv, hav⟩ := TA7.out.sl2.opn
                          subst hav
                          obtain ⟨b, o, Aj, nj, cj, rfl, hbl, hcj, hsj⟩ := TA7.out.sl2.at_ (k := z) (by rw [tabI_length]; exact hlt3)
                          rw [tabI_get] at hsj
                          have hnj : nj = ns.length := by
                            obtain ⟨A', c', hv⟩ := hsj.opn
                            rw [rowI_length] at hv
                            injection hv
                          subst hnj
                          obtain ⟨d, q, rfl, hdl, hdx⟩ := hsj.atI (k := x) (by rw [rowI_length]; exact hlt)
                          rw [rowI_get, ha] at hdx
                          obtain ⟨b2, o2, rfl, hb2, hcx⟩ := HX7.out.atI (k := a) (by rw [HL.out]; exact han)
                          rw [li_get] at hcx
                          have hxa := HR.out.lt a
                          generalize ns.getD a 0 = k1 at *
                          generalize msk (fun z => (ns.getD (fA ns z x).toNat 0).testBit y) z = m at *
                          have HB1 := Lib.hid (spec_l01Bit k1 y w7 (by omega) (by omega))
                          have kg := G7.out.cell
                          have lg := G7.out.lt
                          have htl : (tabI (fA ns) ns.length ns.length).length = ns.length := tabI_length _ _ _
                          rw [htl] at kg
                          clear hsj ha htl
                          go_wp2_with fail
                          refine HB1.out.mono ?_
                          rintro e _ ⟨rfl, rfl⟩
                          cases hbt : k1.testBit y
                          · rw [hbt, if_neg Bool.false_ne_true, Nat.or_zero] at HMs
                            clear hbt
                            go_wp2
                            exact ⟨⟨z + 1, by omega, by go_num, by rw [HMs.out]⟩, by simp [intOf]; omega⟩
                          · rw [hbt, if_pos rfl] at HMs
                            clear hbt
                            have e2 := i64_or_nat m (2 ^ z) (by omega) (two_pow_lt (by omega))
                            rw [← cast_two_pow] at e2
                            have HE2 := Lib.hid e2
                            clear e2
                            go_wp2_with fail
                            refine (spec_l01One (z : Int) _ (by omega) (by omega)).mono ?_
                            rintro e _ ⟨rfl, rfl⟩
                            rw [Int.toNat_natCast]
                            have e2 := HE2.out
                            go_wp2
                            exact ⟨⟨z + 1, by omega, by go_num, by rw [HMs.out]⟩, by simp [intOf]; omega⟩
                        · obtain rfl : z = ns.length := by omega
                          have hm := Nat.lt_of_lt_of_le (msk_lt (fun z => (ns.getD (fA ns z x).toNat 0).testBit y) ns.length) (two_pow_30 h30)
                          have HcI := Lib.hid (HLb.out (.slice A5 ns.length c5) (msk (fun z => (ns.getD (fA ns z x).toNat 0).testBit y) ns.length) w7 hm HU7.out)
                          have efI : lwI (inv ns) (msk (fun z => (ns.getD (fA ns z x).toNat 0).testBit y) ns.length) = fI ns x y := rfl
                          rw [efI] at HcI
                          clear efI hm
                          have EFB : Hid (¬ 0 ≤ fI ns x y → ¬ hbOk ns) := Lib.hid (fun hn hk => hn (hk.2.2.2.2.2 x hlt y hlt2))
                          have HGN : Hid (0 ≤ fI ns x y → ∀ y', y' < y + 1 → 0 ≤ fI ns x y') := Lib.hid (fun hk y' hy' => by
                            rcases Nat.lt_or_ge y' y with h1 | h1
                            · exact HG2.out y' h1
                            · obtain rfl : y' = y := by omega
                              exact hk)
                          have RA := Lib.hid (rowI_succ (fI ns) x y)
                          have RLA := Lib.hid (rowI_length (fI ns) x y)
                          generalize fI ns x y = ri at *
                          go_wp2_with fail
                          refine HcI.out.mono ?_
                          rintro e _ ⟨rfl, rfl⟩
                          by_cases hri : ri < 0
                          · have E := Lib.hid (EFB.out (by omega))
                            have R := Lib.hid (R.out.below B7.out R.out.lt)
                            have BL := Lib.hid (bthen BL.out B7.out)
                            have kr := R.out.cell
                            have fr := R.out.frozen
                            have lr := R.out.lt
                            go_wp2
                            refine bodyPost_ret (v := .tuple #[.agg #[.slice none 0 0, .slice none 0 0, .slice none 0 0, .int .i64 0, .int .i64 0], .bool false]) (by simp [results, Tryz.results112, go_sem, kr, fr, lr]) rfl (.inl ⟨E.out, rfl, ?_⟩)
                            exact (((((BL.out.setCell (p := ⟨w.heap.size, 0, none⟩) (Nat.le_refl _) _).setCell (p := ⟨w.heap.size, 1, none⟩) (Nat.le_refl _) _).setCell (p := ⟨w.heap.size, 2, none⟩) (Nat.le_refl _) _).setCell (p := ⟨w.heap.size, 3, none⟩) (Nat.le_refl _) _).setCell (p := ⟨w.heap.size, 4, none⟩) (Nat.le_refl _) _)
                          · have E := Lib.hid (HGN.out (by omega))
                            have z7 := B7.out.size
                            go_wp2_with (at_builtin; refine stopHere ?_)
                            refine goHere ?_
                            refine ap_one (K := cI) _ ty_int64 rfl _ _ rfl (B := w6.heap.size) (v := .slice Ap y cp) (xs := rowI (fI ns) x y) rfl OP.out (ri : Int) rfl rfl (by have := RLA.out; omega) z7 ?_
                            intro v1 w8 ho1 hg1 hb1 hat1
                            rw [← RA.out] at ho1
                            have O1 := Lib.hid ho1
                            have B8 := Lib.hid (B7.out.trans hb1)
                            clear ho1 hg1 hb1 hat1
                            go_wp2
                            exact ⟨⟨y + 1, by omega, by go_num, O1.out, B8.out, E.out⟩, by simp [intOf]; omega⟩
                    · obtain rfl : y = ns.length := by omega
                      have HGX : Hid (∀ x', x' < x + 1 → ∀ y, y < ns.length → 0 ≤ fI ns x' y) := Lib.hid (fun x' hx' y hy => by
                        rcases Nat.lt_or_ge x' x with h1 | h1
                        · exact HGI.out x' h1 y hy
                        · obtain rfl : x' = x := by omega
                          exact HG2.out y hy)
                      have TI7 := Lib.hid (OwT.below TI.out B7.out)
                      have TO7 := Lib.hid (OwT.below TO.out B7.out)
                      have B37 := Lib.hid (B6.out.trans (B7.out.mono (show w3.heap.size ≤ w6.heap.size by omega)))
                      clear TI TA TO G HX7 HU7
                      have GQ := G7
                      clear G7
                      obtain ⟨hs, h1, h2, h3⟩ := TI7.out
                      obtain ⟨Aa, ca, hav⟩ := h1.opn
                      subst hav
                      have hhl : hs.length = x := by rw [h2, tabI_length]
                      have kg := GQ.out.cell
                      have fg := GQ.out.frozen
                      have lg := GQ.out.lt
                      have H1 := Lib.hid h1
                      have H2 := Lib.hid h2
                      have H3 := Lib.hid h3
                      have HHL := Lib.hid hhl
                      clear h1 h2 h3 hhl
                      go_wp2_with (at_builtin; refine stopHere ?_)
                      refine goHere ?_
                      refine ap_any (K := cH) _ ty_intss rfl _ _ rfl (B := w7.heap.size) (v := .slice (some ⟨w7.heap.size, 0, none⟩) 0 0) (xs := []) rfl (Ow.lit (K := cH) [] rfl rfl (Nat.le_refl _)) (news := hs) rfl rfl (slRd (H1.out.below (below_alloc' _ _)).sl) (by have := HHL.out; simp only [List.length_nil]; omega) (by rw [size_alloc']; omega) ?_
                      intro v1 Wb ho1 hg1 hb1 hat1
                      rw [List.nil_append] at ho1
                      have hbw := (below_alloc' w7 (.cells #[] 27)).trans hb1
                      obtain ⟨Ab, cb, hv1⟩ := ho1.opn
                      subst hv1
                      have N1 := Lib.hid ho1
                      have HBW := Lib.hid hbw
                      have hzb := hbw.size
                      clear ho1 hg1 hb1 hat1 hbw kg fg lg
                      have G7 := Lib.hid (GQ.out.below HBW.out GQ.out.lt)
                      have kg := G7.out.cell
                      have fg := G7.out.frozen
                      have lg := G7.out.lt
                      go_wp2_with (at_builtin; refine stopHere ?_)
                      refine goHere ?_
                      refine ap_one (K := cH) _ ty_intss rfl _ _ rfl (B := w7.heap.size) (xs := hs) rfl N1.out (⟨Ap, ns.length, cp⟩ : Hd) rfl rfl (by have := HHL.out; omega) hzb ?_
                      intro v2 Wc ho2 hg2 hb2 hat2
                      have hbc := HBW.out.trans hb2
                      have zW := GQ.out.lt
                      have T2 := Lib.hid (OwT.more (hd := ⟨Ap, ns.length, cp⟩) H2.out (fun i a b => (H3.out i a b).1) (OP.out.mono (show w3.heap.size + 1 ≤ w6.heap.size by omega)) (ho2.mono (show w3.heap.size + 1 ≤ w7.heap.size by omega)) hbc (fun k hk => (ho2.block k hk).1))
                      rw [← tabI_succ] at T2
                      obtain ⟨A2, c2, hv2⟩ := ho2.opn
                      rw [List.length_append, List.length_singleton] at hv2
                      subst hv2
                      have G8 := Lib.hid (GQ.out.below hbc GQ.out.lt)
                      clear kg fg lg G7
                      have kg := G8.out.cell
                      have fg := G8.out.frozen
                      have lg := G8.out.lt
                      have T3 := Lib.hid (OwT.setBelow T2.out (p := ⟨w3.heap.size, 2, none⟩) (Nat.lt_succ_self _) (.slice A2 (hs.length + 1) c2))
                      have G9 := Lib.hid (G8.out.set_ 2 (.slice A2 (hs.length + 1) c2))
                      have TA79 := Lib.hid (OwT.setBelow (OwT.below TA7.out hbc) (p := ⟨w3.heap.size, 2, none⟩) (Nat.lt_succ_self _) (.slice A2 (hs.length + 1) c2))
                      have TO79 := Lib.hid (OwT.setBelow (OwT.below TO7.out hbc) (p := ⟨w3.heap.size, 2, none⟩) (Nat.lt_succ_self _) (.slice A2 (hs.length + 1) c2))
                      have B9 := Lib.hid ((B37.out.trans (hbc.mono (show w3.heap.size ≤ w7.heap.size by omega))).setCell (p := ⟨w3.heap.size, 2, none⟩) (Nat.le_refl _) (.slice A2 (hs.length + 1) c2))
                      clear ho2 hg2 hb2 hat2 hbc T2 G8 N1 HBW H1 H3
                      go_wp2
                      clear kg fg lg
                      exact ⟨⟨x + 1, by omega, by go_num, ⟨_, T3.out, by have := G9.out; simpa using this⟩, TA79.out, TO79.out, B9.out, HGX.out⟩, by simp [intOf]; omega⟩
                · obtain rfl : x = ns.length := by omega
                  have E : Hid (hbOk ns) := Lib.hid ⟨HN0.out, HPP.out, HB0.out, HT0.out, HG.out, HGI.out⟩
                  obtain ⟨A7, c7, rfl⟩ := TA.out.sl2.opn
                  obtain ⟨A8, c8, rfl⟩ := TO.out.sl2.opn
                  obtain ⟨A9, c9, rfl⟩ := TI.out.sl2.opn
                  have kr := R.out.cell
                  have fr := R.out.frozen
                  have lr := R.out.lt
                  have kg := G.out.cell
                  have lg := G.out.lt
                  have zr := ZR.out
                  simp only [tabI_length] at kg
                  go_wp2
                  refine bodyPost_ret (v := .tuple #[.agg #[.slice A7 ns.length c7, .slice A8 ns.length c8, .slice A9 ns.length c9, .int .i64 bt, .int .i64 tp], .bool true]) (by simp [results, Tryz.results112, go_sem, kr, fr, lr]) rfl (.inr ⟨E.out, _, _, _, by rw [HBT.out, HTP.out], ?_, ?_, ?_, ?_⟩)
                  · have := (OwT.setBelow (OwT.setBelow (OwT.setBelow (OwT.setBelow (OwT.setBelow TA.out (p := ⟨w.heap.size, 0, none⟩) (show w.heap.size < w3.heap.size + 1 by omega) (.slice A7 ns.length c7)) (p := ⟨w.heap.size, 1, none⟩) (show w.heap.size < w3.heap.size + 1 by omega) (.slice A8 ns.length c8)) (p := ⟨w.heap.size, 2, none⟩) (show w.heap.size < w3.heap.size + 1 by omega) (.slice A9 ns.length c9)) (p := ⟨w.heap.size, 3, none⟩) (show w.heap.size < w3.heap.size + 1 by omega) (.int .i64 bt)) (p := ⟨w.heap.size, 4, none⟩) (show w.heap.size < w3.heap.size + 1 by omega) (.int .i64 tp)).mono (show w.heap.size ≤ w3.heap.size + 1 by omega)
                    simpa only [tabI_length] using this
                  · have := (OwT.setBelow (OwT.setBelow (OwT.setBelow (OwT.setBelow (OwT.setBelow TO.out (p := ⟨w.heap.size, 0, none⟩) (show w.heap.size < w3.heap.size + 1 by omega) (.slice A7 ns.length c7)) (p := ⟨w.heap.size, 1, none⟩) (show w.heap.size < w3.heap.size + 1 by omega) (.slice A8 ns.length c8)) (p := ⟨w.heap.size, 2, none⟩) (show w.heap.size < w3.heap.size + 1 by omega) (.slice A9 ns.length c9)) (p := ⟨w.heap.size, 3, none⟩) (show w.heap.size < w3.heap.size + 1 by omega) (.int .i64 bt)) (p := ⟨w.heap.size, 4, none⟩) (show w.heap.size < w3.heap.size + 1 by omega) (.int .i64 tp)).mono (show w.heap.size ≤ w3.heap.size + 1 by omega)
                    simpa only [tabI_length] using this
                  · have := (OwT.setBelow (OwT.setBelow (OwT.setBelow (OwT.setBelow (OwT.setBelow TI.out (p := ⟨w.heap.size, 0, none⟩) (show w.heap.size < w3.heap.size + 1 by omega) (.slice A7 ns.length c7)) (p := ⟨w.heap.size, 1, none⟩) (show w.heap.size < w3.heap.size + 1 by omega) (.slice A8 ns.length c8)) (p := ⟨w.heap.size, 2, none⟩) (show w.heap.size < w3.heap.size + 1 by omega) (.slice A9 ns.length c9)) (p := ⟨w.heap.size, 3, none⟩) (show w.heap.size < w3.heap.size + 1 by omega) (.int .i64 bt)) (p := ⟨w.heap.size, 4, none⟩) (show w.heap.size < w3.heap.size + 1 by omega) (.int .i64 tp)).mono (show w.heap.size ≤ w3.heap.size + 1 by omega)
                    simpa only [tabI_length] using this
                  · exact (((((BL.out.setCell (p := ⟨w.heap.size, 0, none⟩) (Nat.le_refl _) _).setCell (p := ⟨w.heap.size, 1, none⟩) (Nat.le_refl _) _).setCell (p := ⟨w.heap.size, 2, none⟩) (Nat.le_refl _) _).setCell (p := ⟨w.heap.size, 3, none⟩) (Nat.le_refl _) _).setCell (p := ⟨w.heap.size, 4, none⟩) (Nat.le_refl _) _)
theorem spec_l18Build (v : Value) (ns : List Nat) (w : World) (h : Sl cI w v (li ns)) (hr : RelM ns) :
    Calls Tryz.prog 112 #[v] w fun e w' => (¬ hbOk ns ∧ e = .returned (.tuple #[.agg #[.slice none 0 0, .slice none 0 0, .slice none 0 0, .int .i64 0, .int .i64 0], .bool false]) ∧ Below w.heap.size w w') ∨
      (hbOk ns ∧ ∃ a o i, e = .returned (.tuple #[.agg #[a, o, i, .int .i64 (botI ns), .int .i64 (topI ns)], .bool true]) ∧ Sl2 cI w' a (tabI (fA ns) ns.length ns.length) ∧ Sl2 cI w' o (tabI (fO ns) ns.length ns.length) ∧ Sl2 cI w' i (tabI (fI ns) ns.length ns.length) ∧ Below w.heap.size w w') :=
  (spec_l18BuildO v ns w h hr).mono fun e w' q => q.elim .inl fun ⟨h0, a, o, i, h1, h2, h3, h4, h5⟩ => .inr ⟨h0, a, o, i, h1, h2.sl2, h3.sl2, h4.sl2, h5⟩
end Go.Proofs.YtgkogfjifcfkoaaGreat
